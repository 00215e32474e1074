/- x -/
import Derived.Test.YtlmfhjipbjkcbaaGreatDoorSvc
import Derived.Test.YtlmfhjipbjkcbaaGreatDoorLwa
import Derived.Test.YtlmfhjipbjkcbaaGreatDoorStn
set_option maxHeartbeats 8000000
set_option maxRecDepth 100000
set_option linter.unusedSimpArgs false
set_option linter.unusedVariables false
namespace Go.Proofs.YtlmfhjipbjkcbaaGreatDoor
section
open Go.RowKit Go.Sort Go.Lib
theorem zbJ {T:Nat→Prop}{w w':World}{g:Option Addr}{size n c:Nat}{xs:List Value}(h:Src w size (.slice g n c) n xs) (hc:Chg T w w') (hn:n≠0→∀b,g.map (·.block)=some b→¬T b):Src w' size (.slice g n c) n xs:=by
 by_cases h0:n=0
 ·subst h0
  rcases h with h|⟨ad,c',e,hl,hs,h1⟩
  ·exact .inl h
  ·have hx:xs=[]:=yau.1 (by omega)
   subst hx
   exact .inr ⟨ad,c',e,hl,fun j u hj=>by simp at hj,h1⟩
 ·exact zbN h hc (hn h0)
structure StoV where
 fa:Option Addr
 fn:Nat
 fc:Nat
 ta:Option Addr
 tn:Nat
 tc:Nat
abbrev stoC (d:Nat) (s:Sta) (v:StoV):Array Value:=#[.pointer (some ⟨d,0,none⟩),.int .i64 s.x,.int .i64 s.r,.int .i64 s.q,.bool s.km.s,.int .i64 s.km.t,.int .i64 s.km.g,.slice v.fa v.fn v.fc,.slice v.ta v.tn v.tc]
structure StoV.Off (v:StoV) (w:World) (B:List Nat):Prop where
 f:v.fn≠0→∀g,v.fa.map (·.block)=some g→g∉B∧g<w.heap.size
 t:v.tn≠0→∀g,v.ta.map (·.block)=some g→g∉B∧g<w.heap.size
theorem StoV.Off.to {v:StoV}{w w':World}{B B':List Nat}(h:v.Off w B) (hs:w.heap.size≤w'.heap.size) (hb:∀b∈B',b∈B∨w.heap.size≤b):v.Off w' B':=by
 refine ⟨fun hn g hg=>?_,fun hn g hg=>?_⟩
 ·have:=h.f hn g hg
  refine ⟨fun e=>?_,by omega⟩
  rcases hb g e with e|e
  ·exact this.1 e
  ·omega
 ·have:=h.t hn g hg
  refine ⟨fun e=>?_,by omega⟩
  rcases hb g e with e|e
  ·exact this.1 e
  ·omega
def StoV.In (v:StoV) (w:World) (s:Sta):Prop:=StIn w s v.fa v.fn v.fc v.ta v.tn v.tc
theorem StoV.In.chg {v:StoV}{w w':World}{s:Sta}{B:List Nat}{T:Nat→Prop}(h:v.In w s) (hc:Chg T w w') (ho:v.Off w B) (hT:∀i,i<w.heap.size→T i→i∈B):v.In w' s :=
 ⟨zbJ h.fl hc (fun hn b hb e=>by have:=ho.f hn b hb;exact this.1 (hT b this.2 e)),zbJ h.ti hc (fun hn b hb e=>by have:=ho.t hn b hb;exact this.1 (hT b this.2 e)),h.ok,h.fn63,h.tn63⟩
def StoV.New (v:StoV) (w:World):Prop:=(∀g,v.fa.map (·.block)=some g→w.heap.size≤g)∧∀g,v.ta.map (·.block)=some g→w.heap.size≤g
structure StoAt (w:World) (p d:Nat) (s:Sta) (S:DiskS) (B:List Nat) (v:StoV):Prop where
 box:w.heap[p]?=some (.cells (stoC d s v) 105 (0,0))
 st:v.In w s
 disk:zbj w d S B
 pB:p∉B
 off:v.Off w (p::B)
theorem StoAt.ext {w w':World}{p d:Nat}{s:Sta}{S:DiskS}{B:List Nat}{v:StoV}(h:StoAt w p d s S B v) (hx:Ext w w'):StoAt w' p d s S B v :=
 ⟨(hx.block (zab h.box)).trans h.box,h.st.chg (B:=[]) (Chg.of_ext (S:=fun _=>False) hx) ⟨fun hn g hg=>⟨by simp,(h.off.f hn g hg).2⟩,fun hn g hg=>⟨by simp,(h.off.t hn g hg).2⟩⟩ (fun _ _ e=>e.elim),h.disk.ext hx,h.pB,h.off.to hx.size (fun b hb=>.inl hb)⟩
def StoTo (w:World) (p d:Nat) (s:Sta) (B:List Nat) (v:StoV) (S':DiskS) (w':World):Prop :=
 ∃B',StoAt w' p d s S' B' v∧Chg (·∈B) w w'∧∀b∈B',b∈B∨w.heap.size≤b
theorem StoTo.same {w w':World}{p d:Nat}{s:Sta}{S:DiskS}{B:List Nat}{v:StoV}(h:StoAt w p d s S B v) (hx:Ext w w'):StoTo w p d s B v S w':=⟨B,h.ext hx,Chg.of_ext hx,fun _ hb=>.inl hb⟩
theorem StoTo.trans {w w1 w2:World}{p d:Nat}{s:Sta}{S1 S2:DiskS}{B:List Nat}{v:StoV}(h:StoTo w p d s B v S1 w1) (k:∀B1,StoAt w1 p d s S1 B1 v→StoTo w1 p d s B1 v S2 w2):StoTo w p d s B v S2 w2:=by
 obtain ⟨B1,h1,c1,n1⟩:=h
 obtain ⟨B2,h2,c2,n2⟩:=k B1 h1
 refine ⟨B2,h2,c1.trans c2 (fun i hi e=>?_),fun b hb=>?_⟩
 ·rcases n1 i e with e|e
  ·exact e
  ·omega
 ·rcases n2 b hb with e|e
  ·exact n1 b e
  ·have:=c1.size;omega
theorem StoTo.more {w w1 w2:World}{p d:Nat}{s:Sta}{S2:DiskS}{B B1:List Nat}{v:StoV}(c1:Chg (·∈B) w w1) (n1:∀b∈B1,b∈B∨w.heap.size≤b) (k:StoTo w1 p d s B1 v S2 w2):StoTo w p d s B v S2 w2:=by
 obtain ⟨B2,h2,c2,n2⟩:=k
 refine ⟨B2,h2,c1.trans c2 (fun i hi e=>?_),fun b hb=>?_⟩
 ·rcases n1 i e with e|e
  ·exact e
  ·omega
 ·rcases n2 b hb with e|e
  ·exact n1 b e
  ·have:=c1.size;omega
theorem StoAt.on {w w':World}{p d:Nat}{s:Sta}{S S':DiskS}{B:List Nat}{v:StoV}(h:StoAt w p d s S B v) (ht:zbC w d B S' w'):StoTo w p d s B v S' w':=by
 obtain ⟨B',hd,hc,hn⟩:=ht
 have hp:=zab h.box
 have hpB':p∉B':=fun e=>by
  rcases hn p e with e|e
  ·exact h.pB e
  ·omega
 refine ⟨B',⟨(hc.block p hp h.pB).trans h.box,h.st.chg hc h.off (fun i _ e=>yaD _ e),hd,hpB',h.off.to hc.size (fun b hb=>?_)⟩,hc,hn⟩
 rcases yaq.1 hb with e|e
 ·exact .inl (by rw [e];simp)
 ·rcases hn b e with e|e
  ·exact .inl (yaD _ e)
  ·exact .inr e
theorem StoAt.put {w w':World}{p d:Nat}{s s':Sta}{S:DiskS}{B:List Nat}{v v':StoV}(h:StoAt w p d s S B v) (hi:v'.In w s') (ho:v'.Off w (p::B)) (hb:w'.heap[p]?=some (.cells (stoC d s' v') 105 (0,0))) (hc:Chg (·=p) w w'):StoAt w' p d s' S B v' :=
 ⟨hb,hi.chg hc ho (fun i _ e=>by rw [e];simp),h.disk.chg hc (fun b hb e=>h.pB (e▸hb)),h.pB,ho.to hc.size (fun b hb=>.inl hb)⟩
def zaC (S:DiskS) (n:ByteArray) (b:List UInt8):Int×DiskS :=
 thenS (thenS (if (aget S.files n).isSome=true then S.delete n else (0,S)) (fun S=>S.append n b)) (fun S=>S.sync n)
theorem stoWrite_any {w:World}{p d k:Nat}{s:Sta}{S:DiskS}{B:List Nat}{v:StoV}(hk:k≤900000) (inv:DInv S k) (h:StoAt w p d s S B v) (n:ByteArray) (hn:n.size≤64) (a:Option Addr) (m c:Nat) (b:List UInt8) (hs:Src w 1 (.slice a m c) m (u8s b)) (ha:∀g,a.map (·.block)=some g→g∉B∧g<w.heap.size) (hm:m≤1048576) :
 Calls Tryz.prog 57 #[.pointer (some ⟨p,0,none⟩),.string n,.slice a m c] w fun e w'=>e=.returned (.int .i64 (zaC S n b).1)∧StoTo w p d s B v (zaC S n b).2 w':=by
 have HI:=hid inv
 have HH:=hid h
 have HS:=hid hs
 have HA:=hid ha
 have hnm:n.size≤maxLen:=by unfold maxLen;omega
 have c0:w.cell? ⟨p,0,none⟩=some (.pointer (some ⟨d,0,none⟩)):=by have:=zaa h.box 0;simpa using this
 cases hg:aget S.files n with
 | none =>
  have HW:Hid (zaC S n b=thenS (S.append n b) (fun S=>S.sync n)):=hid (by unfold zaC;rw [hg];rfl)
  obtain ⟨R,hR⟩:∃R,R=zaC S n b:=⟨_,rfl⟩
  rw [←hR] at HW ⊢
  have HRD:=hid (zcH h.disk n hg)
  clear hR hg h inv hs ha
  go_enter Tryz.func57,Tryz.ntmps57
  go_wp2_with fail
  refine HRD.out.mono ?_
  rintro e w1 ⟨rfl,rfl⟩
  go_wp2_with fail
  refine (disk_append HI.out.ok (by have:=HI.out.ops;omega) HH.out.disk n hnm a m c b HS.out (fun g hg=>(HA.out g (by rw [zar] at hg;exact hg)).1) (by unfold maxLen;omega)).mono ?_
  rintro e w2 ⟨rfl,ht⟩
  have HT:=hid (HH.out.on ht)
  have HI2:=hid (HI.out.append n b)
  obtain ⟨R2,hR2⟩:∃R2,R2=S.append n b:=⟨_,rfl⟩
  rw [←hR2] at HW HT HI2 ⊢
  clear hR2 ht
  obtain ⟨r,S2⟩:=R2
  by_cases hr:r=0
  ·subst hr
   have HW2:Hid (R=S2.sync n):=hid (by rw [HW.out];rfl)
   obtain ⟨B2,h2,c2,n2⟩:=HT.out
   have H2:=hid h2
   have HC2:=hid (And.intro c2 n2)
   have c0:w2.cell? ⟨p,0,none⟩=some (.pointer (some ⟨d,0,none⟩)):=by have:=zaa h2.box 0;simpa using this
   clear h2 c2 n2 HW HT
   go_wp2_with fail
   refine (disk_sync HI2.out.ok (by have:=HI2.out.ops;omega) H2.out.disk n hnm).mono ?_
   rintro e w3 ⟨rfl,ht3⟩
   have HT3:=hid (StoTo.more HC2.out.1 HC2.out.2 (H2.out.on ht3))
   rw [←HW2.out] at HT3 ⊢
   clear ht3 c0
   go_wp2_with fail
   go_ret
   exact ⟨rfl,HT3.out⟩
  ·have hr0:(r==0)=false:=yam.2 hr
   have HW2:Hid (R=(r,S2)):=hid (by rw [HW.out];unfold thenS;rw [if_neg hr])
   go_wp2_with fail
   go_ret
   rw [HW2.out]
   exact ⟨rfl,HT.out⟩
 | some f =>
  have HW0:Hid (zaC S n b=thenS (thenS (S.delete n) (fun S=>S.append n b)) (fun S=>S.sync n)):=hid (by unfold zaC;rw [hg];rfl)
  obtain ⟨R,hR⟩:∃R,R=zaC S n b:=⟨_,rfl⟩
  rw [←hR] at HW0 ⊢
  have HRD:=hid (zbW inv.ok h.disk n f hg)
  clear hR hg h inv hs ha
  go_enter Tryz.func57,Tryz.ntmps57
  go_wp2_with fail
  refine HRD.out.mono ?_
  rintro e w0 ⟨rv,rfl,hnb⟩
  have HX0:=hid hnb.2.2
  have H0:=hid (HH.out.ext hnb.2.2)
  have c0:w0.cell? ⟨p,0,none⟩=some (.pointer (some ⟨d,0,none⟩)):=by have:=zaa H0.out.box 0;simpa using this
  clear hnb
  go_wp2_with fail
  refine (disk_delete HI.out.ok (by have:=HI.out.ops;omega) H0.out.disk n hnm).mono ?_
  rintro e w1 ⟨rfl,ht0⟩
  have HT0:=hid (H0.out.on ht0)
  have HI1:=hid (HI.out.delete n)
  obtain ⟨R1,hR1⟩:∃R1,R1=S.delete n:=⟨_,rfl⟩
  rw [←hR1] at HW0 HT0 HI1 ⊢
  clear hR1 ht0
  obtain ⟨r,S1⟩:=R1
  by_cases hr:r=0
  ·subst hr
   have HW:Hid (R=thenS (S1.append n b) (fun S=>S.sync n)):=hid (by rw [HW0.out];rfl)
   obtain ⟨B1,h1,c1,n1⟩:=HT0.out
   have H1:=hid h1
   have hcw:Chg (·∈B) w w1:=(Chg.of_ext HX0.out).trans c1 (fun _ _ e=>e)
   have hnw:∀b∈B1,b∈B∨w.heap.size≤b:=fun b hb=>by
    rcases n1 b hb with e|e
    ·exact .inl e
    ·have:=HX0.out.size;exact .inr (by omega)
   have HC1:=hid (And.intro hcw hnw)
   have HS1:Hid (Src w1 1 (.slice a m c) m (u8s b)):=hid (zbN HS.out hcw (fun g hg=>(HA.out g hg).1))
   have HA1:Hid (∀g,a.map (·.block)=some g→g∉B1∧g<w1.heap.size):=hid (fun g hg=>by
    have h:=HA.out g hg
    refine ⟨fun e=>?_,yan h.2 hcw.size⟩
    rcases hnw g e with e|e
    ·exact h.1 e
    ·omega)
   have c0:w1.cell? ⟨p,0,none⟩=some (.pointer (some ⟨d,0,none⟩)):=by have:=zaa h1.box 0;simpa using this
   clear h1 c1 n1 hcw hnw HW0 HT0
   go_wp2_with fail
   refine (disk_append HI1.out.ok (by have:=HI1.out.ops;omega) H1.out.disk n hnm a m c b HS1.out (fun g hg=>(HA1.out g (by rw [zar] at hg;exact hg)).1) (by unfold maxLen;omega)).mono ?_
   rintro e w2 ⟨rfl,ht⟩
   have HT:=hid (H1.out.on ht)
   have HI2:=hid (HI1.out.append n b)
   obtain ⟨R2,hR2⟩:∃R2,R2=S1.append n b:=⟨_,rfl⟩
   rw [←hR2] at HW HT HI2 ⊢
   clear hR2 ht
   obtain ⟨r,S2⟩:=R2
   by_cases hr:r=0
   ·subst hr
    have HW2:Hid (R=S2.sync n):=hid (by rw [HW.out];rfl)
    obtain ⟨B2,h2,c2,n2⟩:=HT.out
    have H2:=hid h2
    have HC2:=hid (And.intro c2 n2)
    have c0:w2.cell? ⟨p,0,none⟩=some (.pointer (some ⟨d,0,none⟩)):=by have:=zaa h2.box 0;simpa using this
    clear h2 c2 n2 HW HT
    go_wp2_with fail
    refine (disk_sync HI2.out.ok (by have:=HI2.out.ops;omega) H2.out.disk n hnm).mono ?_
    rintro e w3 ⟨rfl,ht3⟩
    have HT3:=hid (StoTo.more HC2.out.1 HC2.out.2 (H2.out.on ht3))
    rw [←HW2.out] at HT3 ⊢
    clear ht3 c0
    go_wp2_with fail
    go_ret
    exact ⟨rfl,StoTo.more HC1.out.1 HC1.out.2 HT3.out⟩
   ·have hr0:(r==0)=false:=yam.2 hr
    have HW2:Hid (R=(r,S2)):=hid (by rw [HW.out];unfold thenS;rw [if_neg hr])
    go_wp2_with fail
    go_ret
    rw [HW2.out]
    exact ⟨rfl,StoTo.more HC1.out.1 HC1.out.2 HT.out⟩
  ·have hr0:(r==0)=false:=yam.2 hr
   have hr1:(r != 0)=true:=bne_iff_ne.2 hr
   have HW2:Hid (R=(r,S1)):=hid (by rw [HW0.out];unfold thenS;simp only;rw [if_neg hr,if_neg hr])
   go_wp2_with fail
   go_ret
   rw [HW2.out]
   exact ⟨rfl,StoTo.more (Chg.of_ext HX0.out) (fun b hb=>.inl hb) HT0.out⟩
def StoNew (w:World) (p d:Nat) (s':Sta) (B:List Nat) (v':StoV) (S':DiskS) (w':World):Prop :=
 ∃B',StoAt w' p d s' S' B' v'∧Chg (fun b=>b=p∨b∈B) w w'∧∀b∈B',b∈B∨w.heap.size≤b
theorem StoNew.more {w w1 w2:World}{p d:Nat}{s:Sta}{S2:DiskS}{B B1:List Nat}{v:StoV}(hp:p<w.heap.size) (c1:Chg (fun b=>b=p∨b∈B) w w1) (n1:∀b∈B1,b∈B∨w.heap.size≤b) (k:StoNew w1 p d s B1 v S2 w2):StoNew w p d s B v S2 w2:=by
 obtain ⟨B2,h2,c2,n2⟩:=k
 refine ⟨B2,h2,c1.trans c2 (fun i hi e=>?_),fun b hb=>?_⟩
 ·rcases e with e|e
  ·exact .inl e
  ·rcases n1 i e with e|e
   ·exact .inr e
   ·omega
 ·rcases n2 b hb with e|e
  ·exact n1 b e
  ·have:=c1.size;omega
def InstTo (w:World) (p d:Nat) (s s':Sta) (B:List Nat) (v v':StoV) (r:Int×DiskS) (e:Ending) (w':World):Prop :=
 e=.returned (.int .i64 r.1)∧if r.1=0 then StoNew w p d s' B v' r.2 w' else StoTo w p d s B v r.2 w'
theorem zaK:(Tryz.prog.info? 66).map (·.size)=some 8:=by kernel_rfl
theorem stoInstall_any {w:World}{p d k:Nat}{s s':Sta}{S:DiskS}{B:List Nat}{v v':StoV}(hk:k≤900000) (inv:DInv S k) (h:StoAt w p d s S B v) (hi:v'.In w s') (ho:v'.Off w (p::B)) (hg:HasET w) :
 Calls Tryz.prog 39 #[.pointer (some ⟨p,0,none⟩),.agg (staC s' v'.fa v'.fn v'.fc v'.ta v'.tn v'.tc)] w (InstTo w p d s s' B v v' (saveS S s')):=by
 have HH:=hid h
 have HI:=hid hi
 have HO:=hid ho
 have HSV:=hid (fun W (hx:Ext w W)=>manSave_any hk inv (h.ext hx).disk s' v'.fa v'.ta v'.fn v'.fc v'.tn v'.tc (hi.chg (B:=[]) (Chg.of_ext (S:=fun _=>False) hx) ⟨fun hn g hg=>⟨by simp,(ho.f hn g hg).2⟩,fun hn g hg=>⟨by simp,(ho.t hn g hg).2⟩⟩ (fun _ _ e=>e.elim)) (hg.ext hx))
 obtain ⟨R,hR⟩:∃R,R=saveS S s':=⟨_,rfl⟩
 rw [←hR] at HSV ⊢
 obtain ⟨fa,fn,fc,ta,tn,tc⟩:=v'
 obtain ⟨x,r,q,⟨mb,mt,mg⟩,fl,ti⟩:=s'
 have c0:w.cell? ⟨p,0,none⟩=some (.pointer (some ⟨d,0,none⟩)):=by have:=zaa h.box 0;simpa using this
 have hpl:=zab h.box
 simp only at HSV ⊢
 clear h hi ho inv hg hR
 go_enter Tryz.func39,Tryz.ntmps39
 go_upto_region 1 with fail
 generalize hW:World.alloc _ _=W
 obtain ⟨g,hgg⟩:∃g,g=w.heap.size:=⟨_,rfl⟩
 have HXW:Hid (Ext w W):=hid (by rw [←hW];exact (Ext.refl w).alloc _)
 have HB:Hid (W.heap[g]?=some (.cells #[.int .i64 x,.int .i64 r,.int .i64 q,.bool mb,.int .i64 mt,.int .i64 mg,.slice fa fn fc,.slice ta tn tc] 66 (0,0))):=hid (by rw [←hW,hgg];exact heap_alloc_new w _)
 have HGP:Hid (p≠g):=hid (by omega)
 rw [←hgg]
 replace c0:=(HXW.out.cell (p:=⟨p,0,none⟩) hpl).trans c0
 have HGL:Hid (w.heap.size=g):=hid hgg.symm
 clear hW hgg hpl
 refine zam [] [0,1,2,3,4] [5,6] (by kernel_rfl) (by kernel_rfl) (fun _ _ dd _ _ hh=>by cases dd<;>exact hh) ?_
 simp only [zac,yab,yaa]
 refine yaF ?_
 repeat (go_big_quiet_step (fail))
 (go_big_quiet_want;refine zaV _ _ rfl _ (.agg #[.int .i64 x,.int .i64 r,.int .i64 q,.bool mb,.int .i64 mt,.int .i64 mg,.slice fa fn fc,.slice ta tn tc]) rfl (fun V hV=>by obtain ⟨n,rfl⟩:=hV;exact load_box_run HB.out Tryz.underlying66 rfl zaK) ?_;go_big_quiet_on;simp only [Act.put,List.setIfInBounds_toArray,List.set_cons_succ,List.set_cons_zero])
 refine yaF ?_
 intro w2 hw'
 have hx2:Ext W w2:=by obtain ⟨k,rfl⟩:=hw';exact Ext.drewN _ _
 have HX2:=hid (HXW.out.trans hx2)
 have HB2:=hid ((hx2.block (zab HB.out)).trans HB.out)
 clear hw' hx2 c0
 go_wp2_with fail
 refine (HSV.out w2 HX2.out).mono ?_
 rintro e w3 ⟨rfl,ht⟩
 have HT:Hid (StoTo w p d s B v R.2 w3):=hid (StoTo.more (Chg.of_ext HX2.out) (fun b hb=>.inl hb) ((HH.out.ext HX2.out).on ht))
 have hch:Chg (·∈B) w2 w3:=by obtain ⟨_,_,hc,_⟩:=ht;exact hc
 have HB3:=hid ((hch.block g (zab HB2.out) (fun e=>by have h1:=HH.out.disk.lt g e;have:=HGL.out;omega)).trans HB2.out)
 clear ht hch
 obtain ⟨z,S2⟩:=R
 simp only at HT ⊢
 by_cases hz:z=0
 ·subst hz
  obtain ⟨B3,h3,hc3,hn3⟩:=HT.out
  have H3:=hid h3
  have HC3:=hid (And.intro hc3 hn3)
  clear h3 hc3 hn3
  go_upto_region 5 with (first
   | (refine zat rfl _ _ rfl _ _ _ _ _ rfl HB3.out Tryz.underlying66 rfl zaK ?_)
   | (refine zbR rfl _ _ _ rfl p 1 (stoC d s v) #[.int .i64 x,.int .i64 r,.int .i64 q,.bool mb,.int .i64 mt,.int .i64 mg,.slice fa fn fc,.slice ta tn tc] (stoC d ⟨x,r,q,⟨mb,mt,mg⟩,fl,ti⟩ ⟨fa,fn,fc,ta,tn,tc⟩) _ rfl rfl H3.out.box (by simp) rfl zaK (by simp [Value.oneCell']) ?_;rintro V5 hbV hcV;have HBV:=hid hbV;have HCV:=hid hcV;clear hbV hcV))
  simp only [Act.put]
  go_wp2_with fail
  go_ret
  refine ⟨rfl,?_⟩
  rw [if_pos rfl]
  have ho3:StoV.Off ⟨fa,fn,fc,ta,tn,tc⟩ w3 (p::B3):=HO.out.to HC3.out.1.size (fun b hb=>by
   rcases yaq.1 hb with e|e
   ·exact .inl (by rw [e];simp)
   ·rcases HC3.out.2 b e with e|e
    ·exact .inl (yaD _ e)
    ·exact .inr e)
  have hi3:StoV.In ⟨fa,fn,fc,ta,tn,tc⟩ w3 ⟨x,r,q,⟨mb,mt,mg⟩,fl,ti⟩:=HI.out.chg HC3.out.1 HO.out (fun i _ e=>yaD _ e)
  exact ⟨B3,H3.out.put hi3 ho3 HBV.out HCV.out,(HC3.out.1.mono (fun i _ e=>.inr e)).trans HCV.out (fun i _ e=>.inl e),HC3.out.2⟩
 ·have hz0:(z==0)=false:=yam.2 hz
  have hz1:(z != 0)=true:=bne_iff_ne.2 hz
  go_wp2_with fail
  go_ret
  refine ⟨rfl,?_⟩
  simp only
  rw [if_neg hz]
  exact HT.out
theorem made_empty {w w4:World}{e:TypeId}{size n:Nat}{xs:List Value}{va:Option Addr}{vc:Nat}{t:TypeId}(h:Appended (w.alloc (.cells #[] t (0,0))) e size (.slice (some ⟨w.heap.size,0,none⟩) 0 0) (0+n) ([]++xs) (.slice va (0+n) vc) w4):MadeTo w e size (.slice va n vc) n xs w4:=by
 have hx4:Ext w w4:=((Chg.of_ext (S:=fun k=>k=w.heap.size) ((Ext.refl w).alloc (.cells #[] t (0,0)))).trans h.chg (fun i hi e=>by
  have e2:some w.heap.size=some i:=e
  exact (yaG e2).symm)).ext (fun i hi e=>by omega)
 refine ⟨by have:=h.row;simpa using this,fun g hg=>?_,hx4⟩
 rw [zar] at hg
 have hloc:=h.loc
 rw [zar,zar,hg] at hloc
 have h2:=((Ext.refl w).alloc (.cells #[] t (0,0))).size
 rcases hloc with e|e
 ·have:=yaG e
  simp at this
  omega
 ·have:=yaG e
  omega
theorem elem_sfl:ElemOk Tryz.prog 63 110 4 40 :=
 ⟨Tryz.underlying63,by
   obtain ⟨i0,hi,hz0,hz1,hz2⟩:=info_parts (show (Tryz.prog.info? 110).map (fun i=>(i.zero,i.size,i.bytes))=some (some (.agg #[.string ⟨#[]⟩,.int .i64 0,.int .i64 0,.int .i64 0]),4,40) from by kernel_rfl)
   exact ⟨i0,_,hi,hz0,hz1,hz2,rfl⟩,by decide⟩
theorem neq_sfl_none (W:World):(binOp .eql 63 (.slice none 0 0) (.slice none 0 0)).run Tryz.prog W=.ok (.bool true) W:=by kernel_rfl
theorem neq_sfl_some (ad:Addr) (n c:Nat) (W:World):(binOp .eql 63 (.slice (some ad) n c) (.slice none 0 0)).run Tryz.prog W=.ok (.bool false) W:=by kernel_rfl
theorem clone_sfl (w:World) (a:Option Addr) (n c:Nat) (L:List Fl) (hs:Src w 4 (.slice a n c) n (fls L)) (hn:n≤1000000) :
 Calls Tryz.prog 65 #[.slice a n c] w fun e w'=>∃va vc,e=.returned (.slice va n vc)∧MadeTo w 110 4 (.slice va n vc) n (fls L) w':=by
 have HS:=hid hs
 have HLN:=hid (zbA hs)
 cases a with
 | none =>
  have hz:n=0∧c=0:=by
   rcases hs with ⟨h,h2,_⟩|⟨ad,c',h,_⟩
   ·simp at h;exact ⟨h.1,h.2⟩
   ·simp at h
  obtain ⟨rfl,rfl⟩:=hz
  clear hs
  have hq:=fun W=>neq_sfl_none W
  go_enter Tryz.func65,Tryz.ntmps65
  go_wp2_with fail
  go_ret
  rw [List.eq_nil_of_length_eq_zero HLN.out]
  exact ⟨none,0,rfl,Row.nil _ _ _,by simp [Value.ownBlock],Ext.refl _⟩
 | some ad =>
  clear hs
  have hq:=fun W=>neq_sfl_some ad n c W
  go_enter Tryz.func65,Tryz.ntmps65
  go_wp2_with (at_builtin;go_must (refine zah (n:=0) (m:=n) (v:=.slice _ _ _) elem_sfl rfl _ _ rfl rfl rfl (row_made (heap_alloc_new _ _) 4) (HS.out.ext ((Ext.refl _).alloc _)) (by unfold maxLen;omega) (by omega) ?_;intro v4 w4 happ);obtain ⟨va,vc,rfl⟩:=happ.row.shape;have HA4:=hid happ;clear happ)
  go_ret
  exact ⟨va,vc,by simp,made_empty HA4.out⟩
theorem elem_strr:ElemOk Tryz.prog 64 90 5 48 :=
 ⟨Tryz.underlying64,by
   obtain ⟨i0,hi,hz0,hz1,hz2⟩:=info_parts (show (Tryz.prog.info? 90).map (fun i=>(i.zero,i.size,i.bytes))=some (some (.agg #[.int .i64 0,.int .i64 0,.int .i64 0,.bool false,.string ⟨#[]⟩]),5,48) from by kernel_rfl)
   exact ⟨i0,_,hi,hz0,hz1,hz2,rfl⟩,by decide⟩
theorem neq_strr_none (W:World):(binOp .eql 64 (.slice none 0 0) (.slice none 0 0)).run Tryz.prog W=.ok (.bool true) W:=by kernel_rfl
theorem neq_strr_some (ad:Addr) (n c:Nat) (W:World):(binOp .eql 64 (.slice (some ad) n c) (.slice none 0 0)).run Tryz.prog W=.ok (.bool false) W:=by kernel_rfl
theorem clone_strr (w:World) (a:Option Addr) (n c:Nat) (L:List Tr) (hs:Src w 5 (.slice a n c) n (trs L)) (hn:n≤1000000) :
 Calls Tryz.prog 66 #[.slice a n c] w fun e w'=>∃va vc,e=.returned (.slice va n vc)∧MadeTo w 90 5 (.slice va n vc) n (trs L) w':=by
 have HS:=hid hs
 have HLN:=hid (zbm hs)
 cases a with
 | none =>
  have hz:n=0∧c=0:=by
   rcases hs with ⟨h,h2,_⟩|⟨ad,c',h,_⟩
   ·simp at h;exact ⟨h.1,h.2⟩
   ·simp at h
  obtain ⟨rfl,rfl⟩:=hz
  clear hs
  have hq:=fun W=>neq_strr_none W
  go_enter Tryz.func66,Tryz.ntmps66
  go_wp2_with fail
  go_ret
  rw [List.eq_nil_of_length_eq_zero HLN.out]
  exact ⟨none,0,rfl,Row.nil _ _ _,by simp [Value.ownBlock],Ext.refl _⟩
 | some ad =>
  clear hs
  have hq:=fun W=>neq_strr_some ad n c W
  go_enter Tryz.func66,Tryz.ntmps66
  go_wp2_with (at_builtin;go_must (refine zah (n:=0) (m:=n) (v:=.slice _ _ _) elem_strr rfl _ _ rfl rfl rfl (row_made (heap_alloc_new _ _) 5) (HS.out.ext ((Ext.refl _).alloc _)) (by unfold maxLen;omega) (by omega) ?_;intro v4 w4 happ);obtain ⟨va,vc,rfl⟩:=happ.row.shape;have HA4:=hid happ;clear happ)
  go_ret
  exact ⟨va,vc,by simp,made_empty HA4.out⟩
structure OwnSt (w:World) (s:Sta) (v:StoV) (w':World):Prop where
 f:Row w' 110 4 (.slice v.fa v.fn v.fc) v.fn (fls s.fl)
 t:Row w' 90 5 (.slice v.ta v.tn v.tc) v.tn (trs s.ti)
 fo:∀g,v.fa.map (·.block)=some g→w.heap.size≤g
 to':∀g,v.ta.map (·.block)=some g→w.heap.size≤g
 ne:∀g,v.fa.map (·.block)=some g→v.ta.map (·.block)≠some g
 ext:Ext w w'
def CopyTo (w:World) (s:Sta) (fn tn:Nat) (e:Ending) (w':World):Prop:=∃v:StoV,v.fn=fn∧v.tn=tn∧e=.returned (.agg (staC s v.fa v.fn v.fc v.ta v.tn v.tc))∧OwnSt w s v w'
theorem zdh:(Tryz.prog.info? 63).map (·.size)=some 1:=by kernel_rfl
theorem tier_slice_info:(Tryz.prog.info? 64).map (·.size)=some 1:=by kernel_rfl
theorem zdU (w:World) (s:Sta) (fa ta:Option Addr) (fn fc tn tc:Nat) (hf:Src w 4 (.slice fa fn fc) fn (fls s.fl)) (ht:Src w 5 (.slice ta tn tc) tn (trs s.ti)) (hfn:fn≤1000000) (htn:tn≤1000000) :
 Calls Tryz.prog 37 #[.agg (staC s fa fn fc ta tn tc)] w (CopyTo w s fn tn):=by
 have HCF:=hid (fun W (hx:Ext w W)=>clone_sfl W fa fn fc s.fl (hf.ext hx) hfn)
 have HCT:=hid (fun W (hx:Ext w W)=>clone_strr W ta tn tc s.ti (ht.ext hx) htn)
 obtain ⟨x,r,q,⟨mb,mt,mg⟩,fl,ti⟩:=s
 simp only at HCF HCT ⊢
 clear hf ht
 go_enter Tryz.func37,Tryz.ntmps37
 go_upto_region 1 with fail
 obtain ⟨b,hb⟩:∃b,b=w.heap.size:=⟨_,rfl⟩
 obtain ⟨b2,hb2⟩:∃b,b=w.heap.size+1:=⟨_,rfl⟩
 rw [←hb2,←hb]
 generalize hW:World.alloc _ _=W
 have HXW:Hid (Ext w W):=hid (by rw [←hW];exact ((Ext.refl w).alloc _).alloc _)
 have HB:Hid (W.heap[b]?=some (.cells #[.int .i64 x,.int .i64 r,.int .i64 q,.bool mb,.int .i64 mt,.int .i64 mg,.slice fa fn fc,.slice ta tn tc] 66 (0,0))):=hid (by rw [←hW,hb,heap_alloc_old _ _ (by simp)];exact heap_alloc_new w _)
 have HB2:Hid (W.heap[b2]?=some (.cells #[.int .i64 0,.int .i64 0,.int .i64 0,.bool false,.int .i64 0,.int .i64 0,.slice none 0 0,.slice none 0 0] 66 (0,0))):=hid (by rw [←hW,hb2];exact zaF w _ _)
 have HBB:Hid (w.heap.size=b∧b2=b+1):=hid (by omega)
 have y6:=zaf (T:=fun _=>false) (by have:=zaa HB.out 6;simpa using this:W.cell? ⟨b,6,none⟩=some (.slice fa fn fc)) rfl
 have y7:=zaf (T:=fun _=>false) (by have:=zaa HB.out 7;simpa using this:W.cell? ⟨b,7,none⟩=some (.slice ta tn tc)) rfl
 clear hW hb hb2
 refine zao 7 (fun w'=>∃z:Turned,w'=turned W (fun _=>false) z.d z.f z.os) (.reads [0,1,3,4] (.one 2 (.reads [6] (.one 5 (.one 7 (.one 8 (.one 9 .done))))))) (by kernel_rfl) (by kernel_rfl) (fun _ _ dd _ _ hh=>by cases dd<;>exact hh) ?_ ?_
 ·exact zad (Ext.drewN W 1)
 refine zak ?_
 simp only [zac,yab,yaa]
 repeat (go_big_quiet_step (fail))
 refine yaF ?_
 clear y6 y7
 change zaA _ _ _ _ _ _ _ _ (W.drewN 1)
 have HXd:Hid (Ext W (W.drewN 1)):=hid (Ext.drewN W 1)
 generalize W.drewN 1=Wd at HXd ⊢
 refine zae ?_
 simp only [zac,yab,yaa]
 go_wp2_with fail
 refine (HCF.out Wd (HXW.out.trans HXd.out)).mono ?_
 rintro e w2 ⟨va,vc,rfl,hm2⟩
 have HM2:=hid hm2
 have HX2:=hid (HXd.out.trans hm2.ext)
 clear hm2
 go_wp2_with fail
 refine zal (zad HX2.out) (zak ?_)
 simp only [zac,yab,yaa]
 repeat (go_big_quiet_step (fail))
 refine yaF ?_
 change zaA _ _ _ _ _ _ _ _ w2
 refine zae ?_
 simp only [zac,yab,yaa]
 go_wp2_with fail
 refine (HCT.out w2 (HXW.out.trans HX2.out)).mono ?_
 rintro e w3 ⟨ua,uc,rfl,hm3⟩
 have HM3:=hid hm3
 have HX3:=hid (HX2.out.trans hm3.ext)
 have HB3:=hid ((HX3.out.block (zab HB.out)).trans HB.out)
 have HB23:=hid ((HX3.out.block (zab HB2.out)).trans HB2.out)
 clear hm3
 go_wp2_with fail
 refine zal (zad HX3.out) (zae ?_)
 simp only [zac,yab,yaa]
 go_wp2_with (refine zap rfl _ _ _ rfl b 6 _ #[.int .i64 x,.int .i64 r,.int .i64 q,.bool mb,.int .i64 mt,.int .i64 mg,.slice va fn vc,.slice ta tn tc] _ _ rfl rfl rfl rfl HB3.out (by simp) rfl zdh ?_;rintro V4 hbV hcV _he;have HB4:=hid hbV;have HC4:=hid hcV;clear hbV hcV _he)
 refine zau (zae ?_)
 simp only [zac,yab,yaa]
 go_wp2_with fail
 refine zau (zae ?_)
 simp only [zac,yab,yaa]
 go_wp2_with (refine zap rfl _ _ _ rfl b 7 _ #[.int .i64 x,.int .i64 r,.int .i64 q,.bool mb,.int .i64 mt,.int .i64 mg,.slice va fn vc,.slice ua tn uc] _ _ rfl rfl rfl rfl HB4.out (by simp) rfl tier_slice_info ?_;rintro V5 hbV hcV _he;have HB5:=hid hbV;have HC5:=hid hcV;clear hbV hcV _he)
 refine zau (zav ?_)
 have hCC:Chg (·=b) w3 V5:=HC4.out.trans HC5.out (fun _ _ e=>e)
 have HB25:=hid ((hCC.block b2 (zab HB23.out) (fun e=>by have:=HBB.out;omega)).trans HB23.out)
 have HCC:=hid hCC
 clear hCC
 go_wp2_with (first|(refine zat rfl _ _ rfl _ _ _ _ _ rfl HB5.out Tryz.underlying66 rfl zaK ?_)|(refine zai rfl _ _ _ rfl _ _ _ _ rfl rfl HB25.out rfl zaK (by simp [Value.oneCell']) ?_;rintro V8 hbV hcV;have HB8:=hid hbV;have HC8:=hid hcV;clear hbV hcV))
 refine yaE (zaZ Tryz.results37 _ _ rfl HB8.out Tryz.underlying66 rfl zaK) rfl ?_
 have hC8:Chg (fun k=>k=b∨k=b2) w3 V8:=(HCC.out.mono (fun i _ e=>.inl e)).trans (HC8.out.mono (fun i _ e=>.inr e)) (fun _ _ e=>e)
 have hbw2:b2<w2.heap.size∧b<w2.heap.size:=⟨yan (zab HB2.out) HX2.out.size,yan (zab HB.out) HX2.out.size⟩
 have hlo:∀g,va.map (·.block)=some g→Wd.heap.size≤g∧g<w2.heap.size:=fun g hg=>⟨HM2.out.own g (by rw [zar];exact hg),HM2.out.row.lt (by rw [zar];exact hg)⟩
 have hlo3:∀g,ua.map (·.block)=some g→w2.heap.size≤g:=fun g hg=>HM3.out.own g (by rw [zar];exact hg)
 have hbW:b<Wd.heap.size∧b2<Wd.heap.size:=⟨yan (zab HB.out) HXd.out.size,yan (zab HB2.out) HXd.out.size⟩
 refine ⟨⟨va,fn,vc,ua,tn,uc⟩,rfl,rfl,rfl,(HM2.out.row.ext HM3.out.ext).chg hC8 (fun g hg e=>?_),HM3.out.row.chg hC8 (fun g hg e=>?_),fun g hg=>?_,fun g hg=>?_,fun g hg e=>?_,?_⟩
 ·rw [zar] at hg
  have:=hlo g hg
  omega
 ·rw [zar] at hg
  have:=hlo3 g hg
  omega
 ·have:=hlo g hg;have:=(HXW.out.trans HXd.out).size;omega
 ·have:=hlo3 g hg;have:=(HXW.out.trans HX2.out).size;omega
 ·have:=hlo g hg;have:=hlo3 g e;omega
 ·exact ((Chg.of_ext (S:=fun k=>k=b∨k=b2) (HXW.out.trans HX3.out)).trans hC8 (fun _ _ e=>e)).ext (fun i hi e=>by have:=HBB.out;omega)
theorem zcz {w:World}{p d:Nat}{s:Sta}{S:DiskS}{B:List Nat}{v:StoV}(h:StoAt w p d s S B v) :
 Calls Tryz.prog 35 #[.pointer (some ⟨p,0,none⟩)] w fun e w'=>e=.returned (.bool false)∧w=w':=by
 have c0:w.cell? ⟨p,0,none⟩=some (.pointer (some ⟨d,0,none⟩)):=by have:=zaa h.box 0;simpa using this
 clear h
 go_enter Tryz.func35,Tryz.ntmps35
 go_wp2_with fail
 go_ret
 exact ⟨rfl,rfl⟩
def zdu (nm:ByteArray) (Q:List Prt):Fl:=⟨nm,loS (zaw Q),hiS (zaw Q),(cntL (zaw Q):Int)⟩
def inBl (B:List Nat) (b:Nat):Bool:=decide (b∈B)
def FileTo (w:World) (p d:Nat) (s:Sta) (B:List Nat) (v:StoV) (f:Fl) (r:Int×DiskS) (e:Ending) (w':World):Prop :=
 e=.returned (.tuple #[.agg #[.string f.nm,.int .i64 f.a,.int .i64 f.b,.int .i64 f.k],.int .i64 r.1])∧StoTo w p d s B v r.2 w'
theorem StoAt.other {w w':World}{p d g:Nat}{s:Sta}{S:DiskS}{B:List Nat}{v:StoV}(h:StoAt w p d s S B v) (hc:Chg (·=g) w w') (hB:g∉B) (hp:g≠p) (hf:v.fn≠0→v.fa.map (·.block)≠some g) (ht:v.tn≠0→v.ta.map (·.block)≠some g):StoAt w' p d s S B v :=
 ⟨(hc.block p (zab h.box) (fun e=>hp e.symm)).trans h.box,⟨zbJ h.st.fl hc (fun hn b hb e=>hf hn (e▸hb)),zbJ h.st.ti hc (fun hn b hb e=>ht hn (e▸hb)),h.st.ok,h.st.fn63,h.st.tn63⟩,h.disk.chg hc (fun b hb e=>hB (e▸hb)),h.pB,h.off.to hc.size (fun b hb=>.inl hb)⟩
theorem zed:(Tryz.prog.info? 110).map (·.size)=some 4:=by kernel_rfl
theorem stoFile_any {w:World}{p d k n:Nat}{s:Sta}{S:DiskS}{B:List Nat}{v:StoV}(hk:k≤900000) (inv:DInv S k) (h:StoAt w p d s S B v) (hx:s.x=(n:Int)) (hn:n<1000000000) (a:Option Addr) (m c:Nat) (P:List PaM) (hs:Src w 2 (.slice a m c) m (pams P)) (hP:∀q∈P,q.Ok w) (hok:PrtsOk (zaD P)) (hg:HasET w) :
 Calls Tryz.prog 38 #[.pointer (some ⟨p,0,none⟩),.slice a m c] w (FileTo w p d s B v (zdu (nameS 115 n) (zaD P)) (zaC S (nameS 115 n) (segB (zaD P)))):=by
 have HH:=hid h
 have HI:=hid inv
 have HG:=hid hg
 have HOK:=hid hok.seg
 have hln:=segB_len hok
 have HBD:=hid (fun W (hW:Ext w W)=>build_ok W a m c P (hs.ext hW) (fun q hq=>(hP q hq).ext hW) hok)
 obtain ⟨Q,hQ⟩:∃Q,Q=zaD P:=⟨_,rfl⟩
 rw [←hQ] at HBD HOK hln ⊢
 obtain ⟨bl,hbl⟩:∃bl,bl=segB Q:=⟨_,rfl⟩
 rw [←hbl] at HBD hln ⊢
 have HBL:Hid (bl=fileL (zaw Q)):=hid (by rw [hbl];rfl)
 obtain ⟨bn,hbn⟩:∃bn,bn=bl.length:=⟨_,rfl⟩
 rw [←hbn] at HBD hln
 have c1:w.cell? ⟨p,1,none⟩=some (.int .i64 (n:Int)):=by have:=zaa h.box 1;rw [←hx];simpa using this
 have HC1:=hid c1
 have hpl:=zab h.box
 have HPL:=hid hpl
 have HNB:=hid hbn
 clear h inv hg hok hs hP hQ hbl hbn c1 hpl hx
 go_enter Tryz.func38,Tryz.ntmps38
 go_wp2_with fail
 generalize hW:World.alloc _ _=W
 obtain ⟨rb,hrb⟩:∃rb,rb=w.heap.size:=⟨_,rfl⟩
 have HXW:Hid (Ext w W):=hid (by rw [←hW];exact (Ext.refl w).alloc _)
 have HRB:Hid (W.heap[rb]?=some (.cells #[.string ⟨#[]⟩,.int .i64 0,.int .i64 0,.int .i64 0] 110 (0,0))):=hid (by rw [←hW,hrb];exact heap_alloc_new w _)
 have HRN:Hid (w.heap.size=rb):=hid hrb.symm
 rw [←hrb]
 clear hW hrb
 refine (HBD.out W HXW.out).mono ?_
 rintro e w1 ⟨va,vc,rfl,hm1⟩
 have HM1:=hid hm1
 have HX1:=hid (HXW.out.trans hm1.ext)
 have HS1:Hid (Src w1 1 (.slice va bn vc) bn (u8s (fileL (zaw Q)))):=hid (by rw [←HBL.out];exact hm1.row.src (zaH _))
 clear hm1 HBD
 go_wp2_with fail
 refine (segOpen_any w1 va bn vc (zaw Q) HS1.out (zcj HM1.out.row) HOK.out (HG.out.ext HX1.out)).mono ?_
 rintro e w2 ⟨sp,rfl,hsg,hx2⟩
 have HSG:=hid hsg
 have HX2:=hid hx2
 have c1:w2.cell? ⟨p,1,none⟩=some (.int .i64 (n:Int)):=((HX1.out.trans hx2).cell (p:=⟨p,1,none⟩) HPL.out).trans HC1.out
 clear hsg hx2
 go_wp2_with fail
 refine (stoName_any w2 115 n (by omega)).mono ?_
 rintro e w3 ⟨rfl,hx3⟩
 have HX3:=hid (HX2.out.trans hx3)
 have HSG3:=hid (HSG.out.ext hx3)
 clear hx3 c1
 go_wp2_with fail
 refine (segCount_any HSG3.out HOK.out.nodup HOK.out.ok (by have:=HOK.out.len;omega)).mono ?_
 rintro e w4 ⟨rfl,hx4⟩
 have HX4:=hid (HX3.out.trans hx4)
 have HSG4:=hid (HSG3.out.ext hx4)
 clear hx4
 obtain ⟨fl,hfl⟩:∃fl,fl=zdu (nameS 115 n) Q:=⟨_,rfl⟩
 obtain ⟨nm,hnm⟩:∃nm,nm=nameS 115 n:=⟨_,rfl⟩
 obtain ⟨ct,hct⟩:∃ct,ct=cntL (zaw Q):=⟨_,rfl⟩
 have HFL:Hid (fl=⟨nm,loS (zaw Q),hiS (zaw Q),(ct:Int)⟩):=hid (by rw [hfl,hnm,hct];rfl)
 rw [←hfl,←hnm,←hct]
 have HFE:Hid (zdu (nameS 115 n) Q=fl):=hid hfl.symm
 have HNE:Hid (nameS 115 n=nm):=hid hnm.symm
 have HNZ:Hid (nm.size≤64):=hid (by rw [hnm,zcY];omega)
 clear hfl hnm hct
 go_upto_region 6 with fail
 generalize hW:World.alloc _ _=W5
 obtain ⟨fb,hfb⟩:∃fb,fb=w4.heap.size:=⟨_,rfl⟩
 have HXW5:Hid (Ext w4 W5):=hid (by rw [←hW];exact (Ext.refl w4).alloc _)
 have HFB:Hid (W5.heap[fb]?=some (.cells #[.string nm,.int .i64 0,.int .i64 0,.int .i64 (ct:Int)] 110 (0,0))):=hid (by rw [←hW,hfb];exact heap_alloc_new w4 _)
 have HFN:Hid (w.heap.size≤fb∧rb<fb∧w1.heap.size≤fb):=hid (by
  have h3:=HX4.out.size
  have h1:=(HX1.out.trans HX4.out).size
  have h2:=zab ((((HM1.out.ext).trans HX4.out).block (zab HRB.out)).trans HRB.out)
  omega)
 rw [←hfb]
 clear hW hfb
 go_wp2_with fail
 refine (segSpan_any (HSG4.out.ext HXW5.out) HOK.out.nodup HOK.out.ok (by have:=HOK.out.len;omega)).mono ?_
 rintro e w6 ⟨rfl,hx6⟩
 obtain ⟨lo,hlo⟩:∃lo,lo=loS (zaw Q):=⟨_,rfl⟩
 obtain ⟨hi,hhi⟩:∃hi,hi=hiS (zaw Q):=⟨_,rfl⟩
 rw [←hlo,←hhi] at HFL ⊢
 have HX6:=hid (HX1.out.trans (HX4.out.trans (HXW5.out.trans hx6)))
 have HFB6:=hid ((hx6.block (zab HFB.out)).trans HFB.out)
 have HRB6:=hid (((HM1.out.ext.trans (HX4.out.trans (HXW5.out.trans hx6))).block (zab HRB.out)).trans HRB.out)
 have HSB:Hid (Src w6 1 (.slice va bn vc) bn (u8s bl)):=hid ((HM1.out.row.src (zaH _)).ext (HX4.out.trans (HXW5.out.trans hx6)))
 have hinfo:(Tryz.prog.info? 3).map (·.size)=some 1:=by kernel_rfl
 have HINF:=hid hinfo
 clear hx6 hlo hhi hinfo
 go_upto_region 7 with (first
  | (refine zap rfl _ _ _ rfl fb 1 #[.string nm,.int .i64 0,.int .i64 0,.int .i64 (ct:Int)] #[.string nm,.int .i64 lo,.int .i64 0,.int .i64 (ct:Int)] _ _ rfl rfl rfl rfl HFB6.out (by simp) rfl HINF.out ?_;rintro V7 hbV hcV _he;have HFB7:=hid hbV;have HC7:=hid hcV;clear hbV hcV _he)
  | (refine zap rfl _ _ _ rfl fb 2 #[.string nm,.int .i64 lo,.int .i64 0,.int .i64 (ct:Int)] #[.string nm,.int .i64 lo,.int .i64 hi,.int .i64 (ct:Int)] _ _ rfl rfl rfl rfl HFB7.out (by simp) rfl HINF.out ?_;rintro V8 hbV hcV _he;have HFB8:=hid hbV;have HC8:=hid hcV;clear hbV hcV _he))
 simp only [Act.put]
 have hCC:Chg (·=fb) w6 V8:=HC7.out.trans HC8.out (fun _ _ e=>e)
 have hXV:Ext w V8:=HX6.out.stored1 hCC HFN.out.1
 have HXV:=hid hXV
 have HHV:=hid (HH.out.ext hXV)
 have HRB8:=hid ((hCC.block rb (zab HRB6.out) (fun e=>by have:=HFN.out;omega)).trans HRB6.out)
 have hBf:∀b,w.heap.size≤b→inBl B b=false:=fun b hb=>by
  unfold inBl
  exact decide_eq_false (fun e=>by have:=HH.out.disk.lt b e;omega)
 have hvab:∀g,va.map (·.block)=some g→W.heap.size≤g∧g<w1.heap.size:=fun g hg=>⟨HM1.out.own g (by rw [zar];exact hg),HM1.out.row.lt (by rw [zar];exact hg)⟩
 have hsz:w.heap.size≤W.heap.size:=HXW.out.size
 have hfb1:w1.heap.size≤fb:=HFN.out.2.2
 have HSB8:Hid (Src V8 1 (.slice va bn vc) bn (u8s bl)):=hid (zbN HSB.out hCC (fun g hg e=>by have:=hvab g hg;omega))
 have HVA:Hid (∀g,va.map (·.block)=some g→g∉B∧g<V8.heap.size):=hid (fun g hg=>by
  have h1:=hvab g hg
  have h2:=(HX4.out.trans HXW5.out).size
  have h3:=HXV.out.size
  refine ⟨fun e=>by have:=HH.out.disk.lt g e;omega,?_⟩
  have:=zab HFB8.out
  omega)
 have hld:=fun d f os=>zaW (P:=Tryz.prog) (ty:=110) HFB8.out (hBf fb HFN.out.1) Tryz.underlying110 rfl zed d f os
 have HLD:=hid hld
 have y0:=zaf (T:=inBl B) (by have:=zaa HFB8.out 0;simpa using this:V8.cell? ⟨fb,0,none⟩=some (.string nm)) (hBf fb HFN.out.1)
 have HBF:=hid hBf
 clear hCC hXV hBf hvab hsz hfb1 hld
 refine zao 6 (fun w'=>∃z:Turned,w'=turned V8 (inBl B) z.d z.f z.os) (.reads [0,1,2,3,4] (.one 5 (.one 6 (.one 7 .done)))) (by kernel_rfl) (by kernel_rfl) (fun _ _ dd _ _ hh=>by cases dd<;>exact hh) ?_ ?_
 ·exact zad (Ext.drewN V8 1)
 refine zak ?_
 simp only [zac,yab,yaa]
 (go_big_quiet_want;refine zaV _ _ rfl _ (.agg #[.string nm,.int .i64 lo,.int .i64 hi,.int .i64 (ct:Int)]) rfl (fun w hw=>by obtain ⟨z,rfl⟩:=hw;exact HLD.out z.d z.f z.os) ?_;go_big_quiet_on;simp only [Act.put,List.setIfInBounds_toArray,List.set_cons_succ,List.set_cons_zero])
 repeat (go_big_quiet_step (fail))
 refine yaF ?_
 clear y0
 change zaA _ _ _ _ _ _ _ _ (V8.drewN 1)
 have HXd:Hid (Ext V8 (V8.drewN 1)):=hid (Ext.drewN V8 1)
 generalize V8.drewN 1=Wd at HXd ⊢
 refine zae ?_
 simp only [zac,yab,yaa]
 go_wp2_with fail
 refine (stoWrite_any hk HI.out (HHV.out.ext HXd.out) nm HNZ.out va bn vc bl (HSB8.out.ext HXd.out) (fun g hg=>⟨(HVA.out g hg).1,yan (HVA.out g hg).2 HXd.out.size⟩) (by omega)).mono ?_
 rintro e w9 ⟨rfl,hst⟩
 have hc9:Chg (fun b=>inBl B b=true) V8 w9:=by
  obtain ⟨_,_,hc,_⟩:=hst
  exact ((Chg.of_ext HXd.out).trans hc (fun _ _ e=>e)).mono (fun i _ e=>by unfold inBl;exact decide_eq_true e)
 have HC9:=hid hc9
 have HST0:=hid hst
 have HRB9:=hid ((hc9.block rb (zab HRB8.out) (fun e=>by rw [HBF.out rb (by have:=HRN.out;omega)] at e;cases e)).trans HRB8.out)
 clear hc9 hst
 go_wp2_with fail
 refine zal (zas HC9.out) (zae ?_)
 simp only [zac,yab,yaa]
 go_wp2_with (refine zai rfl _ _ _ rfl _ _ _ _ rfl rfl HRB9.out rfl zed (by simp [Value.oneCell']) ?_;rintro V10 hbV hcV;have HB10:=hid hbV;have HC10:=hid hcV;clear hbV hcV)
 refine zau (zae ?_)
 simp only [zac,yab,yaa]
 go_wp2_with fail
 refine zau (zav ?_)
 go_wp2_with fail
 refine yaE (zaU Tryz.results38 _ _ rfl HB10.out Tryz.underlying110 rfl zed) rfl ?_
 rw [HFE.out,HNE.out,HFL.out]
 refine ⟨rfl,?_⟩
 obtain ⟨B',hsa,hc,hn⟩:=HST0.out
 have hrw:=HRN.out
 have hpl:=HPL.out
 have hWd:rb<Wd.heap.size:=yan (zab HRB8.out) HXd.out.size
 have hrB:rb∉B':=fun e=>by
  rcases hn rb e with e|e
  ·have:=HH.out.disk.lt rb e;omega
  ·omega
 have hsa':=hsa.other HC10.out hrB (by omega) (fun hn e=>by have:=(HH.out.off.f hn rb e).2;omega) (fun hn e=>by have:=(HH.out.off.t hn rb e).2;omega)
 have hxw:Ext w Wd:=HXV.out.trans HXd.out
 refine ⟨B',hsa',((Chg.of_ext (S:=(·∈B)) hxw).trans hc (fun _ _ e=>e)).trans HC10.out (fun i hi e=>by omega),fun b hb=>?_⟩
 rcases hn b hb with e|e
 ·exact .inl e
 ·have:=hxw.size;exact .inr (by omega)
theorem load_part_run {P:Program}{w:World}{b o:Nat}{C:Array Value}{sub:List Value}{t ty:TypeId}{fr:Nat×Nat}{d:TypeDesc}(hb:w.heap[b]?=some (.cells C t fr)) (hs:(C.extract o (o+sub.length)).toList=sub)
 (hu:P.underlying ty=some d) (hd:d.isRow=true) (hi:(P.info? ty).map (·.size)=some sub.length) :
 (Instr.loadAt ty (.pointer (some ⟨b,o,none⟩))).run P w=.ok (.agg sub.toArray) w:=by
 have h:=World.rangeAt_of_block hb o sub.length
 rw [hs] at h
 exact run_loadAt_mid (P:=P) w b o ty sub d h hu hd hi
theorem zcb {P:Program}{ops:Array Oper}{rest:List Oper}{op:Oper}{a:Act}{w:World}{Q:Exit→Act→World→Prop}(hgd:op.guard=none) (ty:TypeId) (x:Operand) (ho:op.op=.load ty x)
 (b o:Nat) (C:Array Value) (sub:List Value) (t:TypeId) (d:TypeDesc) (fr:Nat×Nat) (hx:a.eval x=.pointer (some ⟨b,o,none⟩))
 (hb:w.heap[b]?=some (.cells C t fr)) (hs:(C.extract o (o+sub.length)).toList=sub) (hu:P.underlying ty=some d) (hd:d.isRow=true) (hi:(P.info? ty).map (·.size)=some sub.length)
 (h:wpList P ops Q rest (a.put op.dst (.agg sub.toArray)) w):wpList P ops Q (op::rest) a w:=by
 have hr:=World.rangeAt_of_block hb o sub.length
 rw [hs] at hr
 exact wpList_load_mid hgd ty x ho b o hx sub d hr hu hd hi h
theorem zbK:(Tryz.prog.info? 46).map (·.size)=some 3:=by kernel_rfl
def Fresh (was m:Mk):Prop:=was.s=false∧m.g=was.g∧staR ⟨0,0,0,m,[],[]⟩=true∧m.ok
theorem stoForward_any (w:World) (was m:Mk) (h:Fresh was m) (hg:HasET w) :
 Calls Tryz.prog 36 #[.agg #[.bool was.s,.int .i64 was.t,.int .i64 was.g],.agg #[.bool m.s,.int .i64 m.t,.int .i64 m.g]] w fun e w'=>e=.returned (.bool true)∧Ext w w':=by
 obtain ⟨h1,h2,h3,h4⟩:=h
 have HBY:=hid (fun W (hW:Ext w W)=>manBytes_any W ⟨0,0,0,m,[],[]⟩ none none 0 0 0 0 ⟨.inl ⟨rfl,rfl,rfl⟩,.inl ⟨rfl,rfl,rfl⟩,h4,by decide,by decide⟩ (hg.ext hW))
 have H3:=hid h3
 obtain ⟨ws,wt,wg⟩:=was
 obtain ⟨ms,mt,mg⟩:=m
 simp only at h1 h2 HBY H3 ⊢
 subst h1 h2
 clear h3 h4 hg
 go_enter Tryz.func36,Tryz.ntmps36
 go_upto_region 1 with fail
 obtain ⟨b,hb⟩:∃b,b=w.heap.size:=⟨_,rfl⟩
 obtain ⟨b2,hb2⟩:∃b,b=w.heap.size+1:=⟨_,rfl⟩
 rw [←hb2,←hb]
 generalize hW:World.alloc _ _=W
 have HXW:Hid (Ext w W):=hid (by rw [←hW];exact ((Ext.refl w).alloc _).alloc _)
 have HB:Hid (W.heap[b]?=some (.cells #[.bool false,.int .i64 wt,.int .i64 mg] 46 (0,0))):=hid (by rw [←hW,hb,heap_alloc_old _ _ (by simp)];exact heap_alloc_new w _)
 have HB2:Hid (W.heap[b2]?=some (.cells #[.bool ms,.int .i64 mt,.int .i64 mg] 46 (0,0))):=hid (by rw [←hW,hb2];exact zaF w _ _)
 clear hW hb hb2
 go_wp2_with (refine zat rfl _ _ rfl _ _ _ _ _ rfl HB2.out Tryz.underlying46 rfl zbK ?_)
 refine (HBY.out W HXW.out).mono ?_
 rintro e w2 hby
 unfold BytesTo at hby
 rw [if_pos H3.out] at hby
 obtain ⟨ya,yc,rfl,hm⟩:=hby
 have HX2:=hid (HXW.out.trans hm.ext)
 have z0:=zaa ((hm.ext.block (zab HB.out)).trans HB.out) 0
 have z2:=zaa ((hm.ext.block (zab HB.out)).trans HB.out) 2
 have y2:=zaa ((hm.ext.block (zab HB2.out)).trans HB2.out) 2
 simp at z0 z2 y2
 clear hm
 generalize (sealL 7 _).length=yn
 go_wp2_with fail
 go_ret
 exact ⟨rfl,HX2.out⟩
def madeN (ti:List Tr):List ByteArray:=(ti.filter Tr.m).map Tr.f
def zbQ (s:Sta):List ByteArray:=s.fl.map Fl.nm++madeN s.ti
structure SetM (w:World) (mb:Nat) (N:List ByteArray) (M:List (ByteArray×Value)):Prop where
 map:MapIs (fun s:ByteArray=>Value.string s) w mb M
 val:∀n,aget M n=if n∈N then some (.bool true) else none
theorem SetM.put {w w':World}{mb:Nat}{N:List ByteArray}{M:List (ByteArray×Value)}{s:ByteArray}(h:SetM w mb N M) (hm:MapIs (fun s:ByteArray=>Value.string s) w' mb (aput M s (.bool true))):SetM w' mb (N++[s]) (aput M s (.bool true)):=by
 refine ⟨hm,fun n=>?_⟩
 by_cases hn:n=s
 ·subst hn
  rw [zct,if_pos (by simp)]
 ·rw [zbY M (.bool true) hn,h.val n]
  by_cases h1:n∈N
  ·rw [if_pos h1,if_pos (by simp [h1])]
  ·rw [if_neg h1,if_neg (by simp [h1,hn])]
theorem SetM.ext {w w':World}{mb:Nat}{N:List ByteArray}{M:List (ByteArray×Value)}(h:SetM w mb N M) (hx:Ext w w'):SetM w' mb N M:=⟨h.map.ext hx,h.val⟩
theorem SetM.chg {w w':World}{mb:Nat}{N:List ByteArray}{M:List (ByteArray×Value)}{T:Nat→Prop}(h:SetM w mb N M) (hx:Chg T w w') (hn:¬T mb):SetM w' mb N M:=⟨h.map.chg hx hn,h.val⟩
def NamedTo (w:World) (N:List ByteArray) (e:Ending) (w':World):Prop:=∃mb M,e=.returned (.map (some mb))∧SetM w' mb N M∧w.heap.size≤mb∧Ext w w'
theorem tr_info5:(Tryz.prog.info? 90).map (·.size)=some 5:=by kernel_rfl
theorem stoNamed_any (w:World) (s:Sta) (fa ta:Option Addr) (fn fc tn tc:Nat) (hf:Src w 4 (.slice fa fn fc) fn (fls s.fl)) (ht:Src w 5 (.slice ta tn tc) tn (trs s.ti)) (hfn:fn≤1000000) (htn:tn≤1000000) :
 Calls Tryz.prog 33 #[.agg (staC s fa fn fc ta tn tc)] w (NamedTo w (zbQ s)):=by
 have HF:=hid hf
 have HT:=hid ht
 have HFL:=hid (zbA hf)
 have HTL:=hid (zbm ht)
 have HNT:Hid (zbQ s=s.fl.map Fl.nm++madeN s.ti):=hid rfl
 rw [HNT.out]
 obtain ⟨x,r,q,⟨mb,mt,mg⟩,fl,ti⟩:=s
 simp only at HF HT HFL HTL ⊢
 clear hf ht HNT
 have hmm:=@run_makeMap Tryz.prog
 go_enter Tryz.func33,Tryz.ntmps33
 go_upto_region 2 with fail
 obtain ⟨b,hb⟩:∃b,b=w.heap.size:=⟨_,rfl⟩
 obtain ⟨sb,hsb⟩:∃sb,sb=w.heap.size+1:=⟨_,rfl⟩
 rw [←hsb,←hb]
 generalize hW:World.alloc _ _=W
 have HXW:Hid (Ext w W):=hid (by rw [←hW];exact ((Ext.refl w).alloc _).alloc _)
 have HB:Hid (W.heap[b]?=some (.cells #[.int .i64 x,.int .i64 r,.int .i64 q,.bool mb,.int .i64 mt,.int .i64 mg,.slice fa fn fc,.slice ta tn tc] 66 (0,0))):=hid (by rw [←hW,hb,heap_alloc_old _ _ (by simp)];exact heap_alloc_new w _)
 have HS:Hid (SetM W sb [] []):=hid ⟨by
  have h:=MapIs.new (enc:=fun s:ByteArray=>Value.string s) (w.alloc (.cells #[.int .i64 x,.int .i64 r,.int .i64 q,.bool mb,.int .i64 mt,.int .i64 mg,.slice fa fn fc,.slice ta tn tc] 66 (0,0)))
  have e:(w.alloc (.cells #[.int .i64 x,.int .i64 r,.int .i64 q,.bool mb,.int .i64 mt,.int .i64 mg,.slice fa fn fc,.slice ta tn tc] 66 (0,0))).heap.size=w.heap.size+1:=by simp
  rw [e] at h
  rw [←hW,hsb]
  exact h,fun n=>by simp [aget]⟩
 have HSB:Hid (w.heap.size<sb∧b<sb):=hid (by omega)
 have y6:W.cell? ⟨b,6,none⟩=some (.slice fa fn fc):=by have:=zaa HB.out 6;simpa using this
 clear hW hb hsb hmm
 go_wp2_with fail
 clear y6
 go_loopw [12] (fun s12 wr=>∃k:Nat,s12=.int .i64 (k:Int)∧k≤fn∧Hid (∃M,SetM wr sb ((fl.take k).map Fl.nm) M∧Chg (·=sb) W wr)) (fun t _=>fn-(RowKit.intOf t).toNat)
 case atStart=>exact ⟨0,rfl,Nat.zero_le _,hid ⟨[],by simpa using HS.out,Chg.refl _ _⟩⟩
 case round =>
  obtain ⟨k,rfl,hk,HI⟩:=hrel
  obtain ⟨M,hM,hC⟩:=HI.out
  have HM:=hid hM
  have HC:=hid hC
  have hxr:Ext w wr:=HXW.out.stored1 hC (by have:=HSB.out;omega)
  have HXR:=hid hxr
  clear hM hC hxr HI
  by_cases hlt:k<fn
  ·obtain ⟨fb,fo,F,rfl,hF,f0,f1,f2,f3⟩:=fls_src (HF.out.ext HXR.out) hlt
   have HTK:Hid ((fl.take (k+1)).map Fl.nm=(fl.take k).map Fl.nm++[F.nm]):=hid (by rw [yao,hF];simp)
   clear hF
   go_upto_region 5 with fail
   generalize hV:World.alloc _ _=V
   obtain ⟨bx,hbx⟩:∃bx,bx=wr.heap.size:=⟨_,rfl⟩
   have HXV:Hid (Ext wr V):=hid (by rw [←hV];exact (Ext.refl wr).alloc _)
   have HBX:Hid (V.heap[bx]?=some (.cells #[.string F.nm,.int .i64 F.a,.int .i64 F.b,.int .i64 F.k] 110 (0,0))):=hid (by rw [←hV,hbx];exact heap_alloc_new wr _)
   rw [←hbx]
   clear hV hbx f0 f1 f2 f3
   have y0:=zaa HBX.out 0
   simp at y0
   obtain ⟨w2,hup,hm2,hc2⟩:=(HM.out.ext HXV.out).map.update (P:=Tryz.prog) (zaz Tryz.underlying9) Tryz.underlying102 F.nm (.bool true)
   have HM2:Hid (SetM w2 sb ((fl.take (k+1)).map Fl.nm) (aput M F.nm (.bool true))):=hid (by rw [HTK.out];exact HM.out.put hm2)
   have HC2:=hid ((HC.out.trans (Chg.of_ext (S:=fun _=>False) HXV.out) (fun _ _ e=>e.elim)).trans hc2 (fun _ _ e=>e))
   clear hm2 hc2
   go_wp2_with fail
   go_roundw
   case rel=>exact ⟨k+1,by go_num,by omega,hid ⟨_,HM2.out,HC2.out⟩⟩
   case measure=>simp [RowKit.intOf];omega
  ·obtain rfl:k=fn:=by omega
   have HM0:Hid (SetM wr sb (fl.map Fl.nm++madeN (ti.take 0)) M):=hid (by have h:=HM.out;rw [yai (by rw [HFL.out];exact Nat.le_refl _)] at h;simpa [madeN] using h)
   have hb2:=(HC.out.block b (zab HB.out) (fun e=>by have:=HSB.out;omega)).trans HB.out
   have y7:wr.cell? ⟨b,7,none⟩=some (.slice ta tn tc):=by have:=zaa hb2 7;simpa using this
   clear hb2
   go_wp2_with fail
   clear y7
   go_loopw [23] (fun s23 wq=>∃j:Nat,s23=.int .i64 (j:Int)∧j≤tn∧Hid (∃M,SetM wq sb (fl.map Fl.nm++madeN (ti.take j)) M∧Chg (·=sb) W wq)) (fun t _=>tn-(RowKit.intOf t).toNat)
   case atStart=>exact ⟨0,rfl,Nat.zero_le _,hid ⟨M,HM0.out,HC.out⟩⟩
   case round =>
    obtain ⟨j,rfl,hj,HJ⟩:=hrel
    obtain ⟨M2,hM,hC⟩:=HJ.out
    have HMJ:=hid hM
    have HCJ:=hid hC
    have hxr:Ext w wr:=HXW.out.stored1 hC (by have:=HSB.out;omega)
    have HXJ:=hid hxr
    clear hM hC hxr HJ
    by_cases hlt2:j<tn
    ·obtain ⟨tb,tof,T,rfl,hT,t0,t1,t2,t3,t4⟩:=trs_src (HT.out.ext HXJ.out) hlt2
     have HTK:Hid (ti.take (j+1)=ti.take j++[T]):=hid (by rw [yao,hT];rfl)
     clear hT
     go_upto_region 10 with fail
     generalize hV:World.alloc _ _=V
     obtain ⟨bx,hbx⟩:∃bx,bx=wr.heap.size:=⟨_,rfl⟩
     have HXV:Hid (Ext wr V):=hid (by rw [←hV];exact (Ext.refl wr).alloc _)
     have HBX:Hid (V.heap[bx]?=some (.cells #[.int .i64 T.w,.int .i64 T.o,.int .i64 T.u,.bool T.m,.string T.f] 90 (0,0))):=hid (by rw [←hV,hbx];exact heap_alloc_new wr _)
     rw [←hbx]
     clear hV hbx t0 t1 t2 t3 t4
     have y3:=zaa HBX.out 3
     have y4:=zaa HBX.out 4
     simp at y3 y4
     obtain ⟨Tw,Tq,Tu,Tm,Tf⟩:=T
     simp only at y3 y4
     cases Tm with
     | false =>
      have HM2:Hid (SetM V sb (fl.map Fl.nm++madeN (ti.take (j+1))) M2):=hid (by rw [HTK.out];have h:=HMJ.out.ext HXV.out;simpa [madeN] using h)
      have HC2:=hid (HCJ.out.trans (Chg.of_ext (S:=fun _=>False) HXV.out) (fun _ _ e=>e.elim))
      go_wp2_with fail
      go_roundw
      case rel=>exact ⟨j+1,by go_num,by omega,hid ⟨M2,HM2.out,HC2.out⟩⟩
      case measure=>simp [RowKit.intOf];omega
     | true =>
      obtain ⟨w2,hup,hm2,hc2⟩:=(HMJ.out.ext HXV.out).map.update (P:=Tryz.prog) (zaz Tryz.underlying9) Tryz.underlying102 Tf (.bool true)
      have HM2:Hid (SetM w2 sb (fl.map Fl.nm++madeN (ti.take (j+1))) (aput M2 Tf (.bool true))):=hid (by rw [HTK.out];have h:=HMJ.out.put hm2;simpa [madeN] using h)
      have HC2:=hid ((HCJ.out.trans (Chg.of_ext (S:=fun _=>False) HXV.out) (fun _ _ e=>e.elim)).trans hc2 (fun _ _ e=>e))
      clear hm2 hc2
      go_wp2_with fail
      go_roundw
      case rel=>exact ⟨j+1,by go_num,by omega,hid ⟨_,HM2.out,HC2.out⟩⟩
      case measure=>simp [RowKit.intOf];omega
    ·obtain rfl:j=tn:=by omega
     have HMF:Hid (SetM wr sb (fl.map Fl.nm++madeN ti) M2):=hid (by have h:=HMJ.out;rw [yai (by rw [HTL.out];exact Nat.le_refl _)] at h;exact h)
     go_wp2_with fail
     go_ret
     exact ⟨sb,M2,rfl,HMF.out,by have:=HSB.out;omega,HXJ.out⟩
def fR:ByteArray:=⟨#[114]⟩
def fS:ByteArray:=⟨#[115]⟩
def zbv (N:List ByteArray):List ByteArray→DiskS→Int×DiskS
 | [],S=>(0,S)
 | f::L,S=>if f∈N then zbv N L S else thenS (S.delete f) (zbv N L)
def tidyL (S:DiskS):List ByteArray:=S.list fR++S.list fS
def tidyS (S:DiskS) (s:Sta):Int×DiskS:=zbv (zbQ s) (tidyL S) S
theorem tidyGo_own {N L:List ByteArray}{k:Nat}{f:ByteArray}(S:DiskS) (hk:L[k]?=some f) (hf:f∈N):zbv N (L.drop k) S=zbv N (L.drop (k+1)) S:=by
 obtain ⟨hlt,e⟩:=yad.1 hk
 rw [yaA hlt,e,zbv,if_pos hf]
theorem tidyGo_del {N L:List ByteArray}{k:Nat}{f:ByteArray}(S:DiskS) (hk:L[k]?=some f) (hf:f∉N):zbv N (L.drop k) S=thenS (S.delete f) (zbv N (L.drop (k+1))):=by
 obtain ⟨hlt,e⟩:=yad.1 hk
 rw [yaA hlt,e,zbv,if_neg hf]
theorem DInv.tidy {N L:List ByteArray}:∀{S:DiskS}{k:Nat},DInv S k→DInv (zbv N L S).2 (k+L.length):=by
 induction L with
 | nil=>intro S k h;exact h
 | cons f L ih =>
  intro S k h
  unfold zbv
  split
  ·exact (ih h).mono (by simp)
  ·unfold thenS
   split
   ·exact (ih (h.delete f)).mono (by simp;omega)
   ·exact (h.delete f).mono (by simp)
theorem list_small {S:DiskS}{k:Nat}(inv:DInv S k) (p:ByteArray):(S.list p).length≤512∧∀f∈S.list p,f.size≤64:=by
 refine ⟨?_,fun f hf=>?_⟩
 ·unfold DiskS.list
  rw [zcM]
  have h1:=List.length_filter_le (fun s=>Lib.hasPrefix (bl s) (bl p)) (S.files.map (·.1))
  have h2:=inv.ok.few
  unfold DiskS.names
  rw [yaw] at h1
  omega
 ·unfold DiskS.list at hf
  have h1:=(zbw _).mem_iff.1 hf
  unfold DiskS.names at h1
  have h2:=(yay.1 h1).1
  obtain ⟨q,hq,rfl⟩:=yap.1 h2
  exact inv.nm q hq
theorem tidyL_small {S:DiskS}{k:Nat}(inv:DInv S k):(tidyL S).length≤1024∧∀f∈tidyL S,f.size≤64:=by
 have h1:=list_small inv fR
 have h2:=list_small inv fS
 refine ⟨?_,fun f hf=>?_⟩
 ·unfold tidyL;rw [yae];omega
 ·rcases yah.1 hf with e|e
  ·exact h1.2 f e
  ·exact h2.2 f e
theorem strs_at {w:World}{va:Option Addr}{t vc k:Nat}{L:List ByteArray}(h:Row w 9 1 (.slice va t vc) t (strs L)) (ht:t=L.length) (hk:k<t):∃g s,va=some ⟨g,0,none⟩∧L[k]?=some s∧w.cell? ⟨g,k,none⟩=some (.string s):=by
 subst ht
 obtain ⟨g,cap,e,hb⟩:=StrBlk.of_row h (by omega)
 cases e
 exact ⟨g,L[k],rfl,yac hk,hb.cell (yac hk)⟩
theorem stoTidy_any {w:World}{p d c:Nat}{s:Sta}{S:DiskS}{B:List Nat}{v:StoV}(inv:DInv S c) (hc:c≤800000) (h:StoAt w p d s S B v) (hfn:v.fn≤1000000) (htn:v.tn≤1000000) :
 Calls Tryz.prog 34 #[.pointer (some ⟨p,0,none⟩)] w fun e w'=>e=.returned (.int .i64 (tidyS S s).1)∧StoTo w p d s B v (tidyS S s).2 w':=by
 have HI:=hid inv
 have HH:=hid h
 have HFT:=hid (And.intro hfn htn)
 obtain ⟨R,hR⟩:∃R,R=tidyS S s:=⟨_,rfl⟩
 have HR:Hid (R=zbv (zbQ s) (tidyL S) S):=hid hR
 rw [←hR]
 clear inv h hfn htn hR
 go_enter Tryz.func34,Tryz.ntmps34
 go_upto_region 1 with fail
 go_wp2_with (refine zcb rfl _ _ rfl p 1 (stoC d s v) [.int .i64 s.x,.int .i64 s.r,.int .i64 s.q,.bool s.km.s,.int .i64 s.km.t,.int .i64 s.km.g,.slice v.fa v.fn v.fc,.slice v.ta v.tn v.tc] _ _ _ rfl HH.out.box rfl Tryz.underlying66 rfl zaK ?_)
 refine (stoNamed_any w s v.fa v.ta v.fn v.fc v.tn v.tc HH.out.st.fl HH.out.st.ti HFT.out.1 HFT.out.2).mono ?_
 rintro e w1 ⟨mb,M,rfl,hm,hml,hx1⟩
 have HM:=hid hm
 have HML:=hid hml
 have HX1:=hid hx1
 have H1:=hid (HH.out.ext hx1)
 clear hm hml hx1
 go_upto_region 2 with fail
 have y0:=zaf (T:=fun _=>false) (by have:=zaa H1.out.box 0;simpa using this:w1.cell? ⟨p,0,none⟩=some (.pointer (some ⟨d,0,none⟩))) rfl
 refine zda 99 (fun w'=>∃z:Turned,w'=turned w1 (fun _=>false) z.d z.f z.os) (.reads [0,1,2,3,5,6,7,8,12] (.one 4 (.one 9 (.one 10 (.one 11 .done))))) (by kernel_rfl) (by kernel_rfl) (fun _ _ dd _ _ hh=>by cases dd<;>exact hh) ?_ ?_
 ·exact zad (Ext.drewN w1 1)
 refine zak ?_
 simp only [zac,yab,yaa]
 repeat (go_big_quiet_step (fail))
 refine yaF ?_
 clear y0
 change zaA _ _ _ _ _ _ _ _ (w1.drewN 1)
 have HXd:Hid (Ext w1 (w1.drewN 1)):=hid (Ext.drewN w1 1)
 generalize w1.drewN 1=Wd at HXd ⊢
 refine zae ?_
 simp only [zac,yab,yaa]
 go_wp2_with fail
 refine (disk_list HI.out.ok (H1.out.ext HXd.out).disk fR).mono ?_
 rintro e w2 ⟨l1,rfl,hs1⟩
 obtain ⟨n1,hn1⟩:∃n,n=(S.list fR).length:=⟨_,rfl⟩
 have hr1:=hs1.row
 rw [←hn1] at hr1
 obtain ⟨a1,c1,rfl⟩:=hr1.shape
 have HS1:=hid hs1
 have HR1:=hid hr1
 have HN1:Hid (n1=(S.list fR).length∧n1≤512):=hid ⟨hn1,by have:=(list_small HI.out fR).1;omega⟩
 have HX2:=hid (HXd.out.trans hs1.ext)
 clear hs1 hr1 hn1
 go_wp2_with fail
 refine zal (zad HX2.out) (zae ?_)
 simp only [zac,yab,yaa]
 go_wp2_with fail
 refine (disk_list HI.out.ok (H1.out.ext HX2.out).disk fS).mono ?_
 rintro e w3 ⟨l2,rfl,hs2⟩
 obtain ⟨n2,hn2⟩:∃n,n=(S.list fS).length:=⟨_,rfl⟩
 have hr2:=hs2.row
 rw [←hn2] at hr2
 obtain ⟨a2,c2,rfl⟩:=hr2.shape
 have HS2:=hid hs2
 have HR2:=hid hr2
 have HN2:Hid (n2=(S.list fS).length∧n2≤512):=hid ⟨hn2,by have:=(list_small HI.out fS).1;omega⟩
 have HX3:=hid (HX2.out.trans hs2.ext)
 clear hs2 hr2 hn2
 go_wp2_with fail
 refine zal (zad HX3.out) (zae ?_)
 simp only [zac,yab,yaa]
 go_wp2_with (at_builtin;go_must (refine zah (n:=n1) (m:=n2) (v:=.slice _ _ _) elem_str rfl _ _ rfl rfl rfl (HR1.out.ext HS2.out.ext) (HR2.out.src (strs_one _)) (by have:=HN1.out;have:=HN2.out;unfold maxLen;omega) (by have:=HN1.out;have:=HN2.out;omega) ?_;intro v4 w4 happ);obtain ⟨va,vc,rfl⟩:=happ.row.shape;have HA4:=hid happ;clear happ)
 have hx4:Ext Wd w4:=((Chg.of_ext (S:=fun k=>(Value.slice a1 n1 c1).ownBlock=some k) (HS1.out.ext.trans HS2.out.ext)).trans HA4.out.chg (fun _ _ e=>e)).ext (fun i hi e=>by have:=HS1.out.own i e;omega)
 have HX4:=hid (HXd.out.trans hx4)
 obtain ⟨t,ht⟩:∃t,t=n1+n2:=⟨_,rfl⟩
 have HT:Hid (t=(tidyL S).length∧t≤1024):=hid (by
  have h1:=HN1.out
  have h2:=HN2.out
  refine ⟨?_,by omega⟩
  unfold tidyL
  rw [yae];omega)
 have HR4:Hid (Row w4 9 1 (.slice va t vc) t (strs (tidyL S))):=hid (by
  have h:=HA4.out.row
  rw [←ht] at h
  unfold tidyL
  rw [show strs (S.list fR++S.list fS)=strs (S.list fR)++strs (S.list fS) by simp [strs]]
  exact h)
 have HVO:Hid (∀g,va.map (·.block)=some g→w.heap.size≤g):=hid (fun g hg=>by
  have h1:=(HX1.out.trans HXd.out).size
  rcases HA4.out.loc with e|e
  ·rw [zar,zar,hg] at e
   have:=HS1.out.own g (by rw [zar];exact e.symm);omega
  ·rw [zar,hg] at e
   have h2:=yaG e
   have h3:=(HS1.out.ext.trans HS2.out.ext).size
   omega)
 clear hx4
 rw [←ht]
 clear ht
 refine zal (zad HX4.out) (zae ?_)
 simp only [zac,yab,yaa]
 go_wp2_with fail
 refine zal (zad HX4.out) (zav ?_)
 have HM4:=hid (HM.out.ext HX4.out)
 have HH4:=hid (H1.out.ext HX4.out)
 have HXW:=hid (HX1.out.trans HX4.out)
 clear HA4 HS1 HS2 HR1 HR2 HN1 HN2 HX2 HX3 HXd H1
 go_wp2_with fail
 go_loopw [24] (fun s24 wr=>∃k:Nat,s24=.int .i64 (k:Int)∧k≤t∧Hid (∃S',R=zbv (zbQ s) ((tidyL S).drop k) S'∧DInv S' (c+k)∧StoTo w4 p d s B v S' wr)) (fun t' _=>t-(RowKit.intOf t').toNat)
 case atStart=>exact ⟨0,rfl,Nat.zero_le _,hid ⟨S,HR.out,HI.out,B,HH4.out,Chg.refl _ _,fun _ hb=>.inl hb⟩⟩
 case round =>
  obtain ⟨k,rfl,hk,HJ⟩:=hrel
  obtain ⟨S',hrs,hinv,B',hat,hch,hnew⟩:=HJ.out
  have HRS:=hid hrs
  have HINV:=hid hinv
  have HAT:=hid hat
  have HCN:=hid (And.intro hch hnew)
  have HST:=hid (StoTo.same hat (Ext.refl wr))
  have hd0:wr.cell? ⟨p,0,none⟩=some (.pointer (some ⟨d,0,none⟩)):=by have:=zaa hat.box 0;simpa using this
  clear hrs hinv hat hch hnew HJ
  have hT1:t≤1024:=HT.out.2
  by_cases hlt:k<t
  ·obtain ⟨g,f,rfl,hf,hcell⟩:=strs_at HR4.out HT.out.1 hlt
   have HF:=hid hf
   have hgl:=HVO.out g rfl
   have hg4:g<w4.heap.size:=yaf w4 _ hcell
   have hgB:g∉B:=fun e=>by have:=HH.out.disk.lt g e;omega
   have hcr:wr.cell? ⟨g,k,none⟩=some (.string f):=(HCN.out.1.cell hg4 hgB).trans hcell
   have hmB:mb∉B:=fun e=>by have:=HH.out.disk.lt mb e;have:=HML.out;omega
   have HMR:=hid (HM4.out.chg HCN.out.1 hmB)
   have hz:∀w:World,(zeroValue 4).run Tryz.prog w=.ok (.bool false) w:=fun _=>by kernel_rfl
   have hfs:=(tidyL_small HI.out).2 f (yag hf)
   have HFS:Hid (f.size≤maxLen):=hid (by unfold maxLen;omega)
   clear hcell hgl hg4 hgB hmB hfs
   by_cases hfN:f∈zbQ s
   ·have hlk:(Instr.lookup 102 (.map (some mb)) (.string f) false).run Tryz.prog wr=.ok (.bool true) wr:=by
     have:=HMR.out.map.lookup (P:=Tryz.prog) (zaz Tryz.underlying9) Tryz.underlying102 (.bool false) (hz _) f false
     rw [HMR.out.val f,if_pos hfN] at this
     simpa only [Option.getD_some,Bool.false_eq_true,if_false] using this
    have HRN:Hid (R=zbv (zbQ s) ((tidyL S).drop (k+1)) S'):=hid (by rw [HRS.out];exact tidyGo_own S' hf hfN)
    clear hz hf hfN
    go_wp2_with fail
    go_roundw
    case rel=>exact ⟨k+1,by go_num,by omega,hid ⟨S',HRN.out,HINV.out.mono (by omega),B',HAT.out,HCN.out.1,HCN.out.2⟩⟩
    case measure=>simp [RowKit.intOf];omega
   ·have hlk:(Instr.lookup 102 (.map (some mb)) (.string f) false).run Tryz.prog wr=.ok (.bool false) wr:=by
     have:=HMR.out.map.lookup (P:=Tryz.prog) (zaz Tryz.underlying9) Tryz.underlying102 (.bool false) (hz _) f false
     rw [HMR.out.val f,if_neg hfN] at this
     simpa only [Option.getD_none,Bool.false_eq_true,if_false] using this
    have HRN:Hid (R=thenS (S'.delete f) (zbv (zbQ s) ((tidyL S).drop (k+1)))):=hid (by rw [HRS.out];exact tidyGo_del S' hf hfN)
    clear hz hf hfN
    go_wp2_with fail
    refine (disk_delete HINV.out.ok (by have:=HINV.out.ops;have:=HT.out;omega) HAT.out.disk f HFS.out).mono ?_
    rintro e w5 ⟨rfl,ht5⟩
    have HT5:=hid (StoTo.more HCN.out.1 HCN.out.2 (HAT.out.on ht5))
    have HI5:=hid (HINV.out.delete f)
    obtain ⟨R5,hR5⟩:∃R5,R5=S'.delete f:=⟨_,rfl⟩
    rw [←hR5] at HRN HT5 HI5 ⊢
    clear hR5 ht5
    obtain ⟨r,S5⟩:=R5
    by_cases hr:r=0
    ·subst hr
     have HR5:Hid (R=zbv (zbQ s) ((tidyL S).drop (k+1)) S5):=hid (by rw [HRN.out];rfl)
     go_wp2_with fail
     go_roundw
     case rel=>exact ⟨k+1,by go_num,by omega,hid ⟨S5,HR5.out,HI5.out.mono (by omega),HT5.out⟩⟩
     case measure=>simp [RowKit.intOf];omega
    ·have hr1:(r != 0)=true:=bne_iff_ne.2 hr
     have HR5:Hid (R=(r,S5)):=hid (by rw [HRN.out];unfold thenS;rw [if_neg hr])
     go_wp2_with fail
     go_ret
     rw [HR5.out]
     exact ⟨rfl,StoTo.more (Chg.of_ext HXW.out) (fun b hb=>.inl hb) HT5.out⟩
  ·obtain rfl:k=t:=by omega
   have HR5:Hid (R=(0,S')):=hid (by rw [HRS.out,List.drop_of_length_le (by have:=HT.out;omega)];rfl)
   go_wp2_with fail
   go_ret
   rw [HR5.out]
   exact ⟨rfl,StoTo.more (Chg.of_ext HXW.out) (fun b hb=>.inl hb) (StoTo.more HCN.out.1 HCN.out.2 HST.out)⟩
theorem DInv.write {S:DiskS}{k:Nat}(h:DInv S k) (n:ByteArray) (b:List UInt8):DInv (zaC S n b).2 (k+3):=by
 have h0:DInv (if (aget S.files n).isSome=true then S.delete n else (0,S)).2 (k+1):=by
  split
  ·exact h.delete n
  ·exact h.mono (by omega)
 exact (h0.then' (fun S hS=>hS.append n b)).then' (fun S hS=>hS.sync n)
theorem StoAt.apart {w w':World}{p d:Nat}{s:Sta}{S:DiskS}{B:List Nat}{v:StoV}{T:Nat→Prop}(h:StoAt w p d s S B v) (hc:Chg T w w') (hB:∀b∈B,¬T b) (hp:¬T p) (hf:v.fn≠0→∀b,v.fa.map (·.block)=some b→¬T b) (ht:v.tn≠0→∀b,v.ta.map (·.block)=some b→¬T b):StoAt w' p d s S B v :=
 ⟨(hc.block p (zab h.box) hp).trans h.box,⟨zbJ h.st.fl hc hf,zbJ h.st.ti hc ht,h.st.ok,h.st.fn63,h.st.tn63⟩,h.disk.chg hc hB,h.pB,h.off.to hc.size (fun b hb=>.inl hb)⟩
theorem src_flc {W:World}{b:Nat}{F:Fl}{t:TypeId}{fr:Nat×Nat}(h:W.heap[b]?=some (.cells #[.string F.nm,.int .i64 F.a,.int .i64 F.b,.int .i64 F.k] t fr)):Src W 4 (.slice (some ⟨b,0,none⟩) 1 1) 1 (fls [F]):=by
 refine .inr ⟨_,_,rfl,rfl,fun j u hj=>?_,fls_one _⟩
 rw [yak,Nat.zero_add,zaa h]
 simpa [fls,Fl.cells] using hj
def eqBl (g b:Nat):Bool:=decide (b=g)
def zcn (s:Sta) (n:Nat) (rec seq:Int) (m:Mk) (Q:List Prt):Sta:=⟨(n:Int)+1,rec,seq,m,s.fl++[zdu (nameS 115 n) Q],s.ti⟩
def WriteTo (w:World) (p d:Nat) (s s':Sta) (B:List Nat) (v:StoV) (r:Int×DiskS) (e:Ending) (w':World):Prop :=
 if r.1≠0 then e=.returned (.int .i64 r.1)∧StoTo w p d s B v r.2 w'
 else e=.returned (.int .i64 (saveS r.2 s').1)∧if (saveS r.2 s').1=0 then ∃v':StoV,v'.fn=s'.fl.length∧v'.tn=s'.ti.length∧v'.New w∧StoNew w p d s' B v' (saveS r.2 s').2 w' else StoTo w p d s B v (saveS r.2 s').2 w'
theorem stoFlush_any {w:World}{p d k n:Nat}{s:Sta}{S:DiskS}{B:List Nat}{v:StoV}(hk:k≤800000) (inv:DInv S k) (h:StoAt w p d s S B v) (hx:s.x=(n:Int)) (hn:n<1000000000) (hvn:v.fn≤1000∧v.tn≤1000)
 (rec seq:Int) (hr0:s.r≤rec) (hr1:rec≤1152921504606846976) (hq0:s.q≤seq) (hq1:seq≤1152921504606846976) (mk:Mk) (hmk:Fresh s.km mk)
 (a:Option Addr) (m c:Nat) (P:List PaM) (hs:Src w 2 (.slice a m c) m (pams P)) (hP:∀q∈P,q.Ok w) (hok:PrtsOk (zaD P)) (hg:HasET w) (hgB:0∉B) :
 Calls Tryz.prog 11 #[.pointer (some ⟨p,0,none⟩),.slice a m c,.int .i64 rec,.int .i64 seq,.agg #[.bool mk.s,.int .i64 mk.t,.int .i64 mk.g]] w
  (WriteTo w p d s (zcn s n rec seq mk (zaD P)) B v (zaC S (nameS 115 n) (segB (zaD P)))):=by
 have HH:=hid h
 have HI:=hid inv
 have HG:=hid hg
 have hm0:0<m:=by have h1:=zcO hs;have h2:=hok.pos;simp [zaD] at h2;omega
 have HFW:=hid (fun W (hW:Ext w W)=>stoForward_any W s.km mk hmk (hg.ext hW))
 have HFI:=hid (fun W (hW:Ext w W)=>stoFile_any (hk:=(by omega:k≤900000)) inv (h.ext hW) hx hn a m c P (hs.ext hW) (fun q hq=>(hP q hq).ext hW) hok (hg.ext hW))
 have HCP:=hid (fun W (hW:Ext w W)=>zdU W s v.fa v.ta v.fn v.fc v.tn v.tc ((h.ext hW).st.fl) ((h.ext hW).st.ti) (by omega) (by omega))
 have HX:=hid hx
 have hfl:s.fl.length=v.fn:=zbA h.st.fl
 have htl:s.ti.length=v.tn:=zbm h.st.ti
 have HFL:=hid (And.intro hfl htl)
 have HMO:=hid hmk.2.2.2
 have HGB:=hid hgB
 obtain ⟨ms,mt,mg⟩:=mk
 simp only at HFW HMO ⊢
 have HPL:=hid (zab h.box)
 have hd1:decide (rec<s.r)=false:=decide_eq_false (by omega)
 have hd2:decide (1152921504606846976<rec)=false:=decide_eq_false (by omega)
 have hd3:decide (seq<s.q)=false:=decide_eq_false (by omega)
 have hd4:decide (1152921504606846976<seq)=false:=decide_eq_false (by omega)
 clear h inv hg hs hP hok hx hmk hfl htl hr0 hr1 hq0 hq1 hgB
 go_enter Tryz.func11,Tryz.ntmps11
 go_upto_region 1 with fail
 generalize hW:World.alloc _ _=W
 obtain ⟨kb,hkb⟩:∃kb,kb=w.heap.size:=⟨_,rfl⟩
 have HXW:Hid (Ext w W):=hid (by rw [←hW];exact (Ext.refl w).alloc _)
 have HKB:Hid (W.heap[kb]?=some (.cells #[.bool ms,.int .i64 mt,.int .i64 mg] 46 (0,0))):=hid (by rw [←hW,hkb];exact heap_alloc_new w _)
 have HKN:Hid (w.heap.size=kb):=hid hkb.symm
 rw [←hkb]
 clear hW hkb
 go_wp2_with fail
 refine (zcz (HH.out.ext HXW.out)).mono ?_
 rintro e w1 ⟨rfl,rfl⟩
 have HW:=hid (HH.out.ext HXW.out)
 have y2:W.cell? ⟨p,2,none⟩=some (.int .i64 s.r):=by have:=zaa HW.out.box 2;simpa using this
 have y3:W.cell? ⟨p,3,none⟩=some (.int .i64 s.q):=by have:=zaa HW.out.box 3;simpa using this
 go_wp2_with fail
 refine zam [] [0,1,2,3,4,5,6,7,8,9,10,11,12,13,14,15,16,17,18,19,20,21,22,23,24,25,26,27,28,29,30] [31,32,33,34] (by kernel_rfl) (by kernel_rfl) (fun _ _ dd _ _ hh=>by cases dd<;>exact hh) ?_
 simp only [zac,yab,yaa]
 refine yaF ?_
 repeat (go_big_quiet_step (fail))
 (go_big_quiet_want;refine zaV _ _ rfl _ (.agg #[.bool s.km.s,.int .i64 s.km.t,.int .i64 s.km.g]) rfl (fun V hV=>by obtain ⟨n,rfl⟩:=hV;exact load_part_run (o:=4) (sub:=[.bool s.km.s,.int .i64 s.km.t,.int .i64 s.km.g]) HW.out.box rfl Tryz.underlying46 rfl zbK) ?_;go_big_quiet_on;simp only [Act.put,List.setIfInBounds_toArray,List.set_cons_succ,List.set_cons_zero])
 (go_big_quiet_want;refine zaV _ _ rfl _ (.agg #[.bool ms,.int .i64 mt,.int .i64 mg]) rfl (fun V hV=>by obtain ⟨n,rfl⟩:=hV;exact load_box_run HKB.out Tryz.underlying46 rfl zbK) ?_;go_big_quiet_on;simp only [Act.put,List.setIfInBounds_toArray,List.set_cons_succ,List.set_cons_zero])
 refine yaF ?_
 intro w2 hw'
 have hx2:Ext W w2:=by obtain ⟨j,rfl⟩:=hw';exact Ext.drewN _ _
 have HX2:=hid (HXW.out.trans hx2)
 have HKB2:=hid ((hx2.block (zab HKB.out)).trans HKB.out)
 clear hw' hx2 y2 y3 hd1 hd2 hd3 hd4
 go_wp2_with fail
 refine (HFW.out w2 HX2.out).mono ?_
 rintro e w3 ⟨rfl,hx3⟩
 have HX3:=hid (HX2.out.trans hx3)
 have HKB3:=hid ((hx3.block (zab HKB2.out)).trans HKB2.out)
 have H3:=hid (HH.out.ext HX3.out)
 clear hx3
 go_upto_region 5 with fail
 go_wp2_with (refine zcb rfl _ _ rfl p 1 (stoC d s v) [.int .i64 s.x,.int .i64 s.r,.int .i64 s.q,.bool s.km.s,.int .i64 s.km.t,.int .i64 s.km.g,.slice v.fa v.fn v.fc,.slice v.ta v.tn v.tc] _ _ _ rfl H3.out.box rfl Tryz.underlying66 rfl zaK ?_)
 refine (HCP.out w3 HX3.out).mono ?_
 rintro e w4 ⟨v4,hvf,hvt,rfl,ho4⟩
 have HO4:=hid ho4
 have HX4:=hid (HX3.out.trans ho4.ext)
 have HKB4:=hid ((ho4.ext.block (zab HKB3.out)).trans HKB3.out)
 obtain ⟨fa,fn,fc,ta,tn,tc⟩:=v4
 simp only at hvf hvt
 subst hvf hvt
 clear ho4
 go_upto_region 6 with fail
 generalize hW:World.alloc _ _=W5
 obtain ⟨nb,hnb⟩:∃nb,nb=w4.heap.size:=⟨_,rfl⟩
 have hx5:Ext w4 W5:=by rw [←hW];exact (Ext.refl w4).alloc _
 have HNB:Hid (W5.heap[nb]?=some (.cells #[.int .i64 s.x,.int .i64 s.r,.int .i64 s.q,.bool s.km.s,.int .i64 s.km.t,.int .i64 s.km.g,.slice fa v.fn fc,.slice ta v.tn tc] 66 (0,0))):=hid (by rw [←hW,hnb];exact heap_alloc_new w4 _)
 have HX5:=hid hx5
 have HKB5:=hid ((hx5.block (zab HKB4.out)).trans HKB4.out)
 have HNN:Hid (w4.heap.size=nb):=hid hnb.symm
 have HNK:Hid (kb≠nb∧w.heap.size≤nb):=hid (by
  have h1:=zab HKB4.out
  have h2:=HX4.out.size
  omega)
 rw [←hnb]
 clear hW hnb hx5
 have hinfo:(Tryz.prog.info? 3).map (·.size)=some 1:=by kernel_rfl
 have HINF:=hid hinfo
 have HLD:=hid (fun d f os=>zaW (P:=Tryz.prog) (T:=eqBl nb) (ty:=46) HKB5.out (by unfold eqBl;exact decide_eq_false HNK.out.1) Tryz.underlying46 rfl zbK d f os)
 clear hinfo
 refine zao 8 (fun w'=>∃z:Turned,w'=turned W5 (eqBl nb) z.d z.f z.os) (.reads [0,1,2,3] (.one 4 (.one 5 (.one 6 (.one 7 (.one 8 .done)))))) (by kernel_rfl) (by kernel_rfl) (fun _ _ dd _ _ hh=>by cases dd<;>exact hh) ?_ ?_
 ·exact zad (Ext.drewN W5 1)
 refine zak ?_
 simp only [zac,yab,yaa]
 repeat (go_big_quiet_step (fail))
 (go_big_quiet_want;refine zaV _ _ rfl _ (.agg #[.bool ms,.int .i64 mt,.int .i64 mg]) rfl (fun V hV=>by obtain ⟨z,rfl⟩:=hV;exact HLD.out z.d z.f z.os) ?_;go_big_quiet_on;simp only [Act.put,List.setIfInBounds_toArray,List.set_cons_succ,List.set_cons_zero])
 repeat (go_big_quiet_step (fail))
 refine yaF ?_
 change zaA _ _ _ _ _ _ _ _ (W5.drewN 1)
 have HXd:Hid (Ext W5 (W5.drewN 1)):=hid (Ext.drewN W5 1)
 generalize W5.drewN 1=Wd at HXd ⊢
 have HNB5:=hid ((HXd.out.block (zab HNB.out)).trans HNB.out)
 refine zae ?_
 simp only [zac,yab,yaa]
 go_wp2_with (refine zap rfl _ _ _ rfl nb 1 _ #[.int .i64 s.x,.int .i64 rec,.int .i64 s.q,.bool s.km.s,.int .i64 s.km.t,.int .i64 s.km.g,.slice fa v.fn fc,.slice ta v.tn tc] _ _ rfl rfl rfl rfl HNB5.out (by simp) rfl HINF.out ?_;rintro V6 hbV hcV _he;have HNB6:=hid hbV;have HC6:=hid ((Chg.of_ext HXd.out).trans hcV (fun _ _ e=>e));clear hbV hcV _he)
 refine zal (zas (HC6.out.mono (fun i _ e=>by unfold eqBl;exact decide_eq_true e))) (zae ?_)
 simp only [zac,yab,yaa]
 go_wp2_with fail
 refine zal (zas (HC6.out.mono (fun i _ e=>by unfold eqBl;exact decide_eq_true e))) (zae ?_)
 simp only [zac,yab,yaa]
 go_wp2_with (refine zap rfl _ _ _ rfl nb 2 _ #[.int .i64 s.x,.int .i64 rec,.int .i64 seq,.bool s.km.s,.int .i64 s.km.t,.int .i64 s.km.g,.slice fa v.fn fc,.slice ta v.tn tc] _ _ rfl rfl rfl rfl HNB6.out (by simp) rfl HINF.out ?_;rintro V7 hbV hcV _he;have HNB7:=hid hbV;have HC7:=hid (HC6.out.trans hcV (fun _ _ e=>e));clear hbV hcV _he)
 refine zal (zas (HC7.out.mono (fun i _ e=>by unfold eqBl;exact decide_eq_true e))) (zae ?_)
 simp only [zac,yab,yaa]
 go_wp2_with fail
 refine zal (zas (HC7.out.mono (fun i _ e=>by unfold eqBl;exact decide_eq_true e))) (zae ?_)
 simp only [zac,yab,yaa]
 go_wp2_with (refine zbR rfl _ _ _ rfl nb 3 _ #[.bool ms,.int .i64 mt,.int .i64 mg] #[.int .i64 s.x,.int .i64 rec,.int .i64 seq,.bool ms,.int .i64 mt,.int .i64 mg,.slice fa v.fn fc,.slice ta v.tn tc] _ rfl rfl HNB7.out (by simp) rfl zbK (by simp [Value.oneCell']) ?_;rintro V8 hbV hcV;have HNB8:=hid hbV;have HC8:=hid (HC7.out.trans hcV (fun _ _ e=>e));clear hbV hcV)
 refine zau (zav ?_)
 have HXV:Hid (Ext w V8):=hid ((HX4.out.trans HX5.out).stored1 HC8.out HNK.out.2)
 have HO8:Hid (OwnSt w3 s ⟨fa,v.fn,fc,ta,v.tn,tc⟩ V8):=hid (by
  have h:=HO4.out
  have hnn:=HNN.out
  refine ⟨(h.f.ext HX5.out).chg HC8.out (fun g hg e=>by have:=h.f.lt hg;omega),(h.t.ext HX5.out).chg HC8.out (fun g hg e=>by have:=h.t.lt hg;omega),h.fo,h.to',h.ne,(h.ext.trans HX5.out).stored1 HC8.out (by have:=h.ext.size;omega)⟩)
 go_wp2_with fail
 obtain ⟨F,hF⟩:∃F,F=zdu (nameS 115 n) (zaD P):=⟨_,rfl⟩
 obtain ⟨R,hR⟩:∃R,R=zaC S (nameS 115 n) (segB (zaD P)):=⟨_,rfl⟩
 have HFS:Hid (zcn s n rec seq ⟨ms,mt,mg⟩ (zaD P)=⟨(n:Int)+1,rec,seq,⟨ms,mt,mg⟩,s.fl++[F],s.ti⟩):=hid (by rw [hF];rfl)
 have HIR:Hid (DInv R.2 (k+3)):=hid (by rw [hR];exact HI.out.write _ _)
 rw [←hF,←hR] at HFI
 rw [←hR]
 have hsx:=HX.out
 rw [hsx] at HNB8
 have HRE:Hid (zaC S (nameS 115 n) (segB (zaD P))=R):=hid hR.symm
 clear hF hR hsx
 refine (HFI.out V8 HXV.out).mono ?_
 rintro e w9 ⟨rfl,B9,hsa,hc9,hn9⟩
 have HSA:=hid hsa
 have HC9:=hid hc9
 have HN9:Hid (∀b∈B9,b∈B∨V8.heap.size≤b):=hid hn9
 have hnw:∀b∈B9,b∈B∨w.heap.size≤b:=fun b hb=>by
  rcases hn9 b hb with e|e
  ·exact .inl e
  ·have:=HXV.out.size;exact .inr (by omega)
 have hcw:Chg (·∈B) w w9:=(Chg.of_ext HXV.out).trans hc9 (fun _ _ e=>e)
 have HCW:=hid (And.intro hcw hnw)
 have hBlt:∀b,w.heap.size≤b→b∉B:=fun b hb e=>by have:=HH.out.disk.lt b e;omega
 have HBLT:=hid hBlt
 have HNB9:=hid ((hc9.block nb (zab HNB8.out) (hBlt nb HNK.out.2)).trans HNB8.out)
 have h3sz:=HX3.out.size
 have HO9:Hid (Row w9 110 4 (.slice fa v.fn fc) v.fn (fls s.fl)∧Row w9 90 5 (.slice ta v.tn tc) v.tn (trs s.ti)):=hid (by
  have h:=HO8.out
  exact ⟨h.f.chg hc9 (fun g hg=>hBlt g (by have:=h.fo g (by rw [zar] at hg;exact hg);omega)),h.t.chg hc9 (fun g hg=>hBlt g (by have:=h.to' g (by rw [zar] at hg;exact hg);omega))⟩)
 clear hsa hc9 hn9 hnw hcw hBlt h3sz
 obtain ⟨z,S9⟩:=R
 simp only at HSA HIR ⊢
 by_cases hz:z=0
 ·subst hz
  go_upto_region 9 with fail
  generalize hW:World.alloc _ _=Wa
  obtain ⟨fb,hfb⟩:∃fb,fb=w9.heap.size:=⟨_,rfl⟩
  have hxa:Ext w9 Wa:=by rw [←hW];exact (Ext.refl w9).alloc _
  have HFB:Hid (Wa.heap[fb]?=some (.cells #[.string F.nm,.int .i64 F.a,.int .i64 F.b,.int .i64 F.k] 110 (0,0))):=hid (by rw [←hW,hfb];exact heap_alloc_new w9 _)
  have HNBa:=hid ((hxa.block (zab HNB9.out)).trans HNB9.out)
  have HFN:Hid (nb<fb∧w9.heap.size=fb):=hid (by have:=zab HNB9.out;omega)
  have HXA:=hid hxa
  rw [←hfb]
  clear hW hfb hxa
  have y0:=zaa HNBa.out 0
  simp at y0
  go_upto_region 12 with (refine zap rfl _ _ _ rfl nb 0 _ #[.int .i64 ((n:Int)+1),.int .i64 rec,.int .i64 seq,.bool ms,.int .i64 mt,.int .i64 mg,.slice fa v.fn fc,.slice ta v.tn tc] _ _ rfl rfl rfl rfl HNBa.out (by simp) rfl HINF.out ?_;rintro Vb hbV hcV _he;have HNBb:=hid hbV;have HCb:=hid hcV;clear hbV hcV _he)
  simp only [Act.put]
  have HFBb:=hid ((HCb.out.block fb (zab HFB.out) (fun e=>by have:=HFN.out;omega)).trans HFB.out)
  have HROW:Hid (Row Vb 110 4 (.slice fa v.fn fc) v.fn (fls s.fl)):=hid ((HO9.out.1.ext HXA.out).chg HCb.out (fun g hg e=>by
   have h1:=HO4.out.f.lt hg
   have h2:=HNN.out
   omega))
  have y6:=zaa HNBb.out 6
  simp at y6
  clear y0
  have hvl:v.fn≤1000:=hvn.1
  go_upto_region 13 with (first
   | (refine zat rfl _ _ rfl _ _ _ _ _ rfl HFBb.out Tryz.underlying110 rfl zed ?_)
   | (at_builtin;go_must (refine zah (n:=v.fn) (m:=1) (v:=.slice fa v.fn fc) elem_sfl rfl _ _ rfl rfl rfl (HROW.out.alloc _) (src_flc (F:=F) (heap_alloc_new _ _)) (by unfold maxLen;omega) (by omega) ?_;intro v12 w12 happ);obtain ⟨va,vc,rfl⟩:=happ.row.shape;have HA:=hid happ;have HNBc:Hid (w12.heap[nb]?=some (.cells #[.int .i64 ((n:Int)+1),.int .i64 rec,.int .i64 seq,.bool ms,.int .i64 mt,.int .i64 mg,.slice fa v.fn fc,.slice ta v.tn tc] 66 (0,0))):=hid ((happ.chg.block nb (yan (zab HNBb.out) ((Ext.refl Vb).alloc _).size) (fun e=>by have h1:=HO4.out.f.lt e;have h2:=HNN.out;omega)).trans ((((Ext.refl Vb).alloc _).block (zab HNBb.out)).trans HNBb.out));clear happ)
   | (refine zap rfl _ _ _ rfl nb 6 _ #[.int .i64 ((n:Int)+1),.int .i64 rec,.int .i64 seq,.bool ms,.int .i64 mt,.int .i64 mg,.slice va (v.fn+1) vc,.slice ta v.tn tc] _ _ rfl rfl rfl rfl HNBc.out (by simp) rfl zdh ?_;rintro Vd hbV hcV _he;have HNBd:=hid hbV;have HCd:=hid hcV;clear hbV hcV _he))
  simp only [Act.put]
  have hA:Appended _ 110 4 (.slice fa v.fn fc) (v.fn+1) (fls s.fl++fls [F]) (.slice va (v.fn+1) vc) w12:=HA.out
  have hwx:w.heap.size≤w3.heap.size:=HX3.out.size
  have h4x:w4.heap.size≤V8.heap.size:=by have:=zab HNB8.out;have:=HNN.out;omega
  have hV89:V8.heap.size≤w9.heap.size:=HC9.out.size
  have hnn:=HNN.out
  have hnk:=HNK.out
  have hfo:∀g,fa.map (·.block)=some g→w3.heap.size≤g∧g<w4.heap.size:=fun g hg=>⟨HO4.out.fo g hg,HO4.out.f.lt (by rw [zar];exact hg)⟩
  have hto:∀g,ta.map (·.block)=some g→w3.heap.size≤g∧g<w4.heap.size:=fun g hg=>⟨HO4.out.to' g hg,HO4.out.t.lt (by rw [zar];exact hg)⟩
  have hnV:nb<V8.heap.size:=zab HNB8.out
  have hcA:Chg (fun b=>w.heap.size≤b∧b<V8.heap.size) w9 w12:=((Chg.of_ext (S:=fun b=>w.heap.size≤b∧b<V8.heap.size) HXA.out).trans ((HCb.out.mono (fun i _ e=>by subst e;exact ⟨hnk.2,hnV⟩)).trans ((Chg.of_ext ((Ext.refl Vb).alloc _)).trans (hA.chg.mono (fun i _ e=>by
   rw [zar] at e
   have:=hfo i e
   exact ⟨by omega,by omega⟩)) (fun _ _ e=>e)) (fun _ _ e=>e)) (fun _ _ e=>e))
  have hcT:Chg (fun b=>w.heap.size≤b∧b<V8.heap.size) w9 Vd:=hcA.trans (HCd.out.mono (fun i _ e=>by subst e;exact ⟨hnk.2,hnV⟩)) (fun _ _ e=>e)
  have hT9:∀b∈B9,¬(w.heap.size≤b∧b<V8.heap.size):=fun b hb e=>by
   rcases HN9.out b hb with h|h
   ·exact HBLT.out b e.1 h
   ·omega
  have hpw:=HPL.out
  have hsd:=HSA.out.apart hcT hT9 (fun e=>by omega) (fun hn b hb e=>by have:=(HH.out.off.f hn b hb).2;omega) (fun hn b hb e=>by have:=(HH.out.off.t hn b hb).2;omega)
  have hva:∀g,va.map (·.block)=some g→(w3.heap.size≤g∧g<w4.heap.size)∨w9.heap.size≤g:=fun g hg=>by
   have hl:=hA.loc
   rw [zar,zar,hg] at hl
   rcases hl with e|e
   ·exact .inl (hfo g e.symm)
   ·right
    have e2:=yaG e
    have h1:=HXA.out.size
    have h2:=HCb.out.size
    have h3:=((Ext.refl Vb).alloc (.cells #[.string F.nm,.int .i64 F.a,.int .i64 F.b,.int .i64 F.k] 110 (0,0))).size
    omega
  have hoff:StoV.Off ⟨va,v.fn+1,vc,ta,v.tn,tc⟩ Vd (p::B9):=by
   have hB9:∀b∈B9,b<w9.heap.size:=HSA.out.disk.lt
   have hsz:w9.heap.size≤Vd.heap.size:=hcT.size
   refine ⟨fun _ g hg=>?_,fun _ g hg=>?_⟩
   ·have hr:g<w12.heap.size:=hA.row.lt (by rw [zar];exact hg)
    have hr2:w12.heap.size≤Vd.heap.size:=HCd.out.size
    refine ⟨fun e=>?_,by omega⟩
    rcases hva g hg with h|h
    ·rcases yaq.1 e with e|e
     ·omega
     ·exact hT9 g e ⟨by omega,by omega⟩
    ·rcases yaq.1 e with e|e
     ·omega
     ·have:=hB9 g e;omega
   ·have h:=hto g hg
    refine ⟨fun e=>?_,by omega⟩
    rcases yaq.1 e with e|e
    ·omega
    ·exact hT9 g e ⟨by omega,by omega⟩
  have hin:StoV.In ⟨va,v.fn+1,vc,ta,v.tn,tc⟩ Vd ⟨(n:Int)+1,rec,seq,⟨ms,mt,mg⟩,s.fl++[F],s.ti⟩:=by
   refine ⟨?_,?_,HMO.out,by show v.fn+1<_;omega,by show v.tn<_;omega⟩
   ·have h1:=hA.row.chg HCd.out (fun g hg e=>by
     rw [zar] at hg
     rcases hva g hg with h|h
     ·omega
     ·omega)
    have h2:=h1.src (fun u hu=>by rw [←fls_append] at hu;exact fls_one _ u hu)
    rw [←fls_append] at h2
    exact h2
   ·have h1:=HO9.out.2.chg ((Chg.of_ext (S:=fun b=>b=nb∨fa.map (·.block)=some b) HXA.out).trans ((HCb.out.mono (fun i _ e=>.inl e)).trans ((Chg.of_ext ((Ext.refl Vb).alloc _)).trans ((hA.chg.mono (fun i _ e=>.inr (by rw [zar] at e;exact e))).trans (HCd.out.mono (fun i _ e=>.inl e)) (fun _ _ e=>e)) (fun _ _ e=>e)) (fun _ _ e=>e)) (fun _ _ e=>e)) (fun g hg e=>by
     rw [zar] at hg
     rcases e with e|e
     ·have:=hto g hg;omega
     ·exact HO4.out.ne g e hg)
    exact h1.src (trs_one _)
  have hgd:HasET Vd:=(HG.out.chg HCW.out.1 HGB.out).chg hcT (fun e=>by have:=HG.out.lt;omega)
  have HINS:=hid (stoInstall_any (k:=k+3) (by omega) HIR.out hsd hin hoff hgd)
  have hcw:Chg (·∈B) w Vd:=HCW.out.1.trans hcT (fun i hi e=>by omega)
  have HCWD:=hid hcw
  have HNEW:Hid (StoV.New ⟨va,v.fn+1,vc,ta,v.tn,tc⟩ w):=hid ⟨fun g hg=>by have h:=hva g hg;omega,fun g hg=>by have:=hto g hg;omega⟩
  clear hA hwx h4x hV89 hnn hnk hfo hto hnV hcA hcT hT9 hpw hsd hva hoff hin hgd hcw y6
  go_wp2_with (refine zat rfl _ _ rfl _ _ _ _ _ rfl HNBd.out Tryz.underlying66 rfl zaK ?_)
  refine HINS.out.mono ?_
  rintro e we ⟨rfl,hre⟩
  have HRW:=hid hre
  clear hre
  go_wp2_with fail
  go_ret
  rw [HRE.out,HFS.out]
  unfold WriteTo
  rw [if_neg (by simp)]
  refine ⟨rfl,?_⟩
  have h:=HRW.out
  simp only
  split at h
  ·rename_i h0
   rw [if_pos h0]
   refine ⟨⟨va,v.fn+1,vc,ta,v.tn,tc⟩,by simp [HFL.out.1],by simp [HFL.out.2],HNEW.out,?_⟩
   exact StoNew.more HPL.out (HCWD.out.mono (fun i _ e=>.inr e)) HCW.out.2 h
  ·rename_i h0
   rw [if_neg h0]
   exact StoTo.more HCWD.out HCW.out.2 h
 ·have hz0:(z==0)=false:=yam.2 hz
  have hz1:(z != 0)=true:=bne_iff_ne.2 hz
  go_wp2_with fail
  go_ret
  rw [HRE.out]
  unfold WriteTo
  rw [if_pos hz]
  exact ⟨rfl,StoTo.more HCW.out.1 HCW.out.2 (.same HSA.out ((Ext.refl w9).alloc _))⟩
structure OnDisk (S:DiskS) (F:Fl) (L:List SegI):Prop where
 file:∃f,aget S.files F.nm=some f∧f.bytes=fileL L
 ok:SegOk L
 a:F.a=loS L
 b:F.b=hiS L
 k:F.k=(cntL L:Int)
theorem stoRead_any {w:World}{p d:Nat}{s:Sta}{S:DiskS}{B:List Nat}{v:StoV}(ok:S.Ok) (h:StoAt w p d s S B v) (F:Fl) (L:List SegI) (hF:OnDisk S F L) (hg:HasET w) :
 Calls Tryz.prog 43 #[.pointer (some ⟨p,0,none⟩),.agg #[.string F.nm,.int .i64 F.a,.int .i64 F.b,.int .i64 F.k]] w fun e w'=>∃q,e=.returned (.tuple #[.pointer (some ⟨q,0,none⟩),.int .i64 0])∧SegAt w' q L∧Ext w w':=by
 obtain ⟨f,hf,hb⟩:=hF.file
 have HRD:=hid (fun W (hW:Ext w W)=>zbW ok (h.ext hW).disk F.nm f hf)
 rw [hb] at HRD
 have HOK:=hid hF.ok
 have HG:=hid hg
 have HFF:=hid (And.intro hF.a (And.intro hF.b hF.k))
 have c0:w.cell? ⟨p,0,none⟩=some (.pointer (some ⟨d,0,none⟩)):=by have:=zaa h.box 0;simpa using this
 have HPL:=hid (zab h.box)
 obtain ⟨nm,fa,fb,fk⟩:=F
 simp only at HRD HFF ⊢
 clear hF hf hb hg h ok
 go_enter Tryz.func43,Tryz.ntmps43
 go_upto_region 1 with fail
 generalize hW:World.alloc _ _=W
 obtain ⟨g,hgg⟩:∃g,g=w.heap.size:=⟨_,rfl⟩
 have HXW:Hid (Ext w W):=hid (by rw [←hW];exact (Ext.refl w).alloc _)
 have HB:Hid (W.heap[g]?=some (.cells #[.string nm,.int .i64 fa,.int .i64 fb,.int .i64 fk] 110 (0,0))):=hid (by rw [←hW,hgg];exact heap_alloc_new w _)
 rw [←hgg]
 have y0:=zaf (T:=fun _=>false) ((HXW.out.cell (p:=⟨p,0,none⟩) HPL.out).trans c0) rfl
 have y1:=zaf (T:=fun _=>false) (by have:=zaa HB.out 0;simpa using this:W.cell? ⟨g,0,none⟩=some (.string nm)) rfl
 clear hW hgg c0
 refine zao 11 (fun w'=>∃z:Turned,w'=turned W (fun _=>false) z.d z.f z.os) (.reads [0,1,2,3,4,5] (.one 6 (.reads [7,8,9,10] (.one 11 .done)))) (by kernel_rfl) (by kernel_rfl) (fun _ _ dd _ _ hh=>by cases dd<;>exact hh) ?_ ?_
 ·exact zad (Ext.drewN W 1)
 refine zak ?_
 simp only [zac,yab,yaa]
 repeat (go_big_quiet_step (fail))
 refine yaF ?_
 clear y0 y1
 change zaA _ _ _ _ _ _ _ _ (W.drewN 1)
 have HXd:Hid (Ext W (W.drewN 1)):=hid (Ext.drewN W 1)
 generalize W.drewN 1=Wd at HXd ⊢
 refine zae ?_
 simp only [zac,yab,yaa]
 go_wp2_with fail
 refine (HRD.out Wd (HXW.out.trans HXd.out)).mono ?_
 rintro e w3 ⟨v3,rfl,hrow,hown,hx3⟩
 obtain ⟨ra,rc,rfl⟩:=hrow.shape
 have HROW:=hid hrow
 have HX3:=hid (HXd.out.trans hx3)
 clear hrow hown hx3
 obtain ⟨bn,hbn⟩:∃bn,bn=(fileL L).length:=⟨_,rfl⟩
 rw [←hbn] at HROW ⊢
 clear hbn
 go_wp2_with fail
 refine zal (zad HX3.out) (zak ?_)
 simp only [zac,yab,yaa]
 repeat (go_big_quiet_step (fail))
 refine yaF ?_
 change zaA _ _ _ _ _ _ _ _ w3
 refine zae ?_
 simp only [zac,yab,yaa]
 go_wp2_with fail
 refine zau (zav ?_)
 go_wp2_with fail
 refine (segOpen_any w3 ra bn rc L (HROW.out.src (zaH _)) (zcj HROW.out) HOK.out (HG.out.ext (HXW.out.trans HX3.out))).mono ?_
 rintro e w4 ⟨q,rfl,hsg,hx4⟩
 have HSG:=hid hsg
 have HX4:=hid (HX3.out.trans hx4)
 clear hsg hx4
 go_wp2_with fail
 refine (segSpan_any HSG.out HOK.out.nodup HOK.out.ok (by have:=HOK.out.len;omega)).mono ?_
 rintro e w5 ⟨rfl,hx5⟩
 have HSG5:=hid (HSG.out.ext hx5)
 have HX5:=hid (HX4.out.trans hx5)
 rw [←HFF.out.1,←HFF.out.2.1]
 have hb5:=(HX5.out.block (zab HB.out)).trans HB.out
 have y1:=zaf (T:=fun _=>false) (by have:=zaa hb5 1;simpa using this:w5.cell? ⟨g,1,none⟩=some (.int .i64 fa)) rfl
 have y2:=zaf (T:=fun _=>false) (by have:=zaa hb5 2;simpa using this:w5.cell? ⟨g,2,none⟩=some (.int .i64 fb)) rfl
 have Y3:=hid (zaf (T:=fun _=>false) (by have:=zaa hb5 3;simpa using this:w5.cell? ⟨g,3,none⟩=some (.int .i64 fk)) rfl)
 have y3:=Y3.out
 clear hx5 hb5
 go_wp2_with fail
 refine zao 16 (fun w'=>∃z:Turned,w'=turned w5 (fun _=>false) z.d z.f z.os) (.reads [0,1,2,3,4,5,6,7,8,9,10,11,13,14] (.one 12 (.reads [15] (.one 16 .done)))) (by kernel_rfl) (by kernel_rfl) (fun _ _ dd _ _ hh=>by cases dd<;>exact hh) ?_ ?_
 ·exact zad (Ext.drewN w5 1)
 refine zak ?_
 simp only [zac,yab,yaa]
 repeat (go_big_quiet_step (fail))
 refine yaF ?_
 clear y1 y2 y3
 change zaA _ _ _ _ _ _ _ _ (w5.drewN 1)
 have HXe:Hid (Ext w5 (w5.drewN 1)):=hid (Ext.drewN w5 1)
 generalize w5.drewN 1=We at HXe ⊢
 refine zae ?_
 simp only [zac,yab,yaa]
 go_wp2_with fail
 refine (segCount_any (HSG5.out.ext HXe.out) HOK.out.nodup HOK.out.ok (by have:=HOK.out.len;omega)).mono ?_
 rintro e w6 ⟨rfl,hx6⟩
 rw [←HFF.out.2.2]
 have HX6:=hid (HXe.out.trans hx6)
 clear hx6
 go_wp2_with fail
 refine zal (zad HX6.out) (zak ?_)
 simp only [zac,yab,yaa]
 repeat (go_big_quiet_step (fail))
 refine yaF ?_
 change zaA _ _ _ _ _ _ _ _ w6
 refine zae ?_
 simp only [zac,yab,yaa]
 go_wp2_with fail
 refine zau (zav ?_)
 go_wp2_with fail
 go_ret2
 exact ⟨q,rfl,HSG5.out.ext HX6.out,HXW.out.trans (HX5.out.trans HX6.out)⟩
theorem waterNew_any (w:World) (g:Int) (hr:mkR ⟨false,0,g⟩=true) (hg:HasET w) :
 Calls Tryz.prog 29 #[.int .i64 g] w fun e w'=>e=.returned (.tuple #[.agg #[.bool false,.int .i64 0,.int .i64 g],.int .i64 0])∧Ext w w':=by
 have HM:Hid (∀W,Calls Tryz.prog 59 #[.agg #[.bool false,.int .i64 0,.int .i64 g]] W fun e w'=>e=.returned (.bool true)∧Ext W w'):=hid (fun W=>by have h:=zea ⟨false,0,g⟩ W;rw [hr] at h;exact h)
 clear hr
 go_enter Tryz.func29,Tryz.ntmps29
 go_upto_region 2 with fail
 obtain ⟨b,hb⟩:∃b,b=w.heap.size:=⟨_,rfl⟩
 obtain ⟨b2,hb2⟩:∃b,b=w.heap.size+1:=⟨_,rfl⟩
 rw [←hb2,←hb]
 generalize hW:World.alloc _ _=W
 have HXW:Hid (Ext w W):=hid (by rw [←hW];exact ((Ext.refl w).alloc _).alloc _)
 have HB:Hid (W.heap[b]?=some (.cells #[.bool false,.int .i64 0,.int .i64 0] 46 (0,0))):=hid (by rw [←hW,hb,heap_alloc_old _ _ (by simp)];exact heap_alloc_new w _)
 have HB2:Hid (W.heap[b2]?=some (.cells #[.bool false,.int .i64 0,.int .i64 g] 46 (0,0))):=hid (by rw [←hW,hb2];exact zaF w _ _)
 have HBN:Hid (w.heap.size≤b):=hid (by omega)
 clear hW hb hb2
 go_wp2_with (refine zat rfl _ _ rfl _ _ _ _ _ rfl HB2.out Tryz.underlying46 rfl zbK ?_)
 refine (HM.out W).mono ?_
 rintro e w2 ⟨rfl,hx2⟩
 have HX2:=hid (HXW.out.trans hx2)
 have HB0:=hid ((hx2.block (zab HB.out)).trans HB.out)
 have HB22:=hid ((hx2.block (zab HB2.out)).trans HB2.out)
 clear hx2
 go_wp2_with (first|(refine zat rfl _ _ rfl _ _ _ _ _ rfl HB22.out Tryz.underlying46 rfl zbK ?_)|(refine zai rfl _ _ _ rfl _ _ _ _ rfl rfl HB0.out rfl zbK (by simp [Value.oneCell']) ?_;rintro V8 hbV hcV;have HB8:=hid hbV;have HC8:=hid hcV;clear hbV hcV))
 refine yaE (zaU Tryz.results29 _ _ rfl HB8.out Tryz.underlying46 rfl zbK) rfl ?_
 exact ⟨rfl,HX2.out.stored1 HC8.out (by have:=HBN.out;omega)⟩
def StateTo (w:World) (s:Sta) (fn tn:Nat) (e:Ending) (w':World):Prop:=∃v:StoV,v.fn=fn∧v.tn=tn∧e=.returned (.agg (staC s v.fa v.fn v.fc v.ta v.tn v.tc))∧OwnSt w s v w'
theorem stoState_any {w:World}{p d:Nat}{s:Sta}{S:DiskS}{B:List Nat}{v:StoV}(h:StoAt w p d s S B v) (hfn:v.fn≤1000000) (htn:v.tn≤1000000) :
 Calls Tryz.prog 20 #[.pointer (some ⟨p,0,none⟩)] w (StateTo w s v.fn v.tn):=by
 have HN:=hid (fun W (hW:Ext w W)=>zcz (h.ext hW))
 have HH:=hid h
 have HCP:=hid (fun W (hW:Ext w W)=>zdU W s v.fa v.ta v.fn v.fc v.tn v.tc (h.st.fl.ext hW) (h.st.ti.ext hW) hfn htn)
 obtain ⟨x,r,q,⟨mb,mt,mg⟩,fl,ti⟩:=s
 obtain ⟨fa,fn,fc,ta,tn,tc⟩:=v
 simp only at HN HH HCP hfn htn ⊢
 clear h
 go_enter Tryz.func20,Tryz.ntmps20
 go_upto_region 1 with fail
 obtain ⟨b,hb⟩:∃b,b=w.heap.size:=⟨_,rfl⟩
 rw [←hb]
 generalize hW:World.alloc _ _=W
 have HXW:Hid (Ext w W):=hid (by rw [←hW];exact (Ext.refl w).alloc _)
 have HB:Hid (W.heap[b]?=some (.cells #[.int .i64 0,.int .i64 0,.int .i64 0,.bool false,.int .i64 0,.int .i64 0,.slice none 0 0,.slice none 0 0] 66 (0,0))):=hid (by rw [←hW,hb];exact heap_alloc_new w _)
 have HBN:Hid (w.heap.size≤b):=hid (by omega)
 clear hW hb
 go_wp2_with fail
 refine (HN.out W HXW.out).mono ?_
 rintro e w1 ⟨rfl,rfl⟩
 have HW:=hid (HH.out.ext HXW.out)
 go_wp2_with (refine zcb rfl _ _ rfl p 1 (stoC d ⟨x,r,q,⟨mb,mt,mg⟩,fl,ti⟩ ⟨fa,fn,fc,ta,tn,tc⟩) [.int .i64 x,.int .i64 r,.int .i64 q,.bool mb,.int .i64 mt,.int .i64 mg,.slice fa fn fc,.slice ta tn tc] _ _ _ rfl HW.out.box rfl Tryz.underlying66 rfl zaK ?_)
 refine (HCP.out W HXW.out).mono ?_
 rintro e w2 ⟨v2,hv1,hv2,rfl,ho⟩
 have HO:=hid ho
 have HB2:=hid ((ho.ext.block (zab HB.out)).trans HB.out)
 have HBL:=hid (zab HB.out)
 obtain ⟨fa2,fn2,fc2,ta2,tn2,tc2⟩:=v2
 simp only at hv1 hv2
 subst hv1 hv2
 clear ho
 go_wp2_with (refine zai rfl _ _ _ rfl _ _ _ _ rfl rfl HB2.out rfl zaK (by simp [Value.oneCell']) ?_;rintro V8 hbV hcV;have HB8:=hid hbV;have HC8:=hid hcV;clear hbV hcV)
 refine yaE (zaZ Tryz.results20 _ _ rfl HB8.out Tryz.underlying66 rfl zaK) rfl ?_
 refine ⟨⟨fa2,fn2,fc2,ta2,tn2,tc2⟩,rfl,rfl,rfl,HO.out.f.chg HC8.out (fun g hg e=>?_),HO.out.t.chg HC8.out (fun g hg e=>?_),fun g hg=>?_,fun g hg=>?_,HO.out.ne,?_⟩
 ·rw [zar] at hg
  have:=HO.out.fo g hg;have:=HBL.out;omega
 ·rw [zar] at hg
  have:=HO.out.to' g hg;have:=HBL.out;omega
 ·have:=HO.out.fo g hg;have:=HXW.out.size;omega
 ·have:=HO.out.to' g hg;have:=HXW.out.size;omega
 ·exact (HXW.out.trans HO.out.ext).stored1 HC8.out (by have:=HBN.out;omega)
def restK (S:DiskS) (t:Sta):Int×Sta:=if ((zbQ t).all fun n=>(aget S.files n).isSome)=true then (0,t) else (24,t)
def stoK (S:DiskS) (own:Sta) (al:Sta→Bool):Int×Sta :=
 if (loadS S).2.2≠0 then ((loadS S).2.2,staZ)
 else if (loadS S).2.1=true then (if al (loadS S).1=true then restK S (loadS S).1 else (2,staZ))
 else restK S own
def StoMade (w:World) (d:Nat) (t:Sta) (S':DiskS) (B:List Nat) (p:Nat) (w':World):Prop :=
 ∃v B',StoAt w' p d t S' B' v∧v.New w∧Chg (·∈B) w w'∧(∀b∈B',b∈B∨w.heap.size≤b)∧w.heap.size≤p
def OpenSto (w:World) (d:Nat) (S:DiskS) (B:List Nat) (K:Int×Sta) (e:Ending) (w':World):Prop :=
 if K.1≠0 then e=.returned (.tuple #[.pointer none,.int .i64 K.1])∧Ext w w'
 else ∃p,e=.returned (.tuple #[.pointer (some ⟨p,0,none⟩),.int .i64 (tidyS S K.2).1])∧StoMade w d K.2 (tidyS S K.2).2 B p w'
def FreshTo (w:World) (own:Sta) (e:Ending) (w':World):Prop :=
 ∃v:StoV,e=.returned (.tuple #[.agg (staC own v.fa v.fn v.fc v.ta v.tn v.tc),.bool true])∧v.In w' own∧Ext w w'∧(∀g,v.fa.map (·.block)=some g→w.heap.size≤g)∧∀g,v.ta.map (·.block)=some g→w.heap.size≤g
theorem disk_read_any {w:World}{d:Nat}{S:DiskS}{B:List Nat}(ok:S.Ok) (h:zbj w d S B) (n:ByteArray) :
 Calls Tryz.prog 14 #[.pointer (some ⟨d,0,none⟩),.string n] w fun e w'=>∃v,e=.returned (.tuple #[v,.int .i64 (if (aget S.files n).isSome=true then 0 else 13)])∧Ext w w':=by
 cases hg:aget S.files n with
 | none =>
  refine (zcH h n hg).mono ?_
  rintro e w' ⟨rfl,rfl⟩
  exact ⟨_,rfl,Ext.refl _⟩
 | some f =>
  refine (zbW ok h n f hg).mono ?_
  rintro e w' ⟨v,rfl,_,_,hx⟩
  exact ⟨_,rfl,hx⟩
structure NewV (w:World) (v:StoV) (w':World) (t:Sta):Prop where
 st:v.In w' t
 f:∀g,v.fa.map (·.block)=some g→w.heap.size≤g
 t':∀g,v.ta.map (·.block)=some g→w.heap.size≤g
 ext:Ext w w'
theorem NewV.more {w w' w'':World}{v:StoV}{t:Sta}(h:NewV w v w' t) (hx:Ext w' w''):NewV w v w'' t :=
 ⟨h.st.chg (B:=[]) (Chg.of_ext (S:=fun _=>False) hx) ⟨fun hn g hg=>by
   refine ⟨by simp,?_⟩
   obtain ⟨b,o,F,e,_,f0,_⟩:=fls_src (k:=0) h.st.fl (by omega)
   rw [e] at hg
   have e2:b=g:=by simpa using hg
   subst e2
   exact yaf _ _ f0,fun hn g hg=>by
   refine ⟨by simp,?_⟩
   obtain ⟨b,o,F,e,_,f0,_⟩:=trs_src (k:=0) h.st.ti (by omega)
   rw [e] at hg
   have e2:b=g:=by simpa using hg
   subst e2
   exact yaf _ _ f0⟩ (fun _ _ e=>e.elim),h.f,h.t',h.ext.trans hx⟩
theorem NewV.off {w w':World}{v:StoV}{t:Sta}{B:List Nat}(h:NewV w v w' t) (hB:∀b∈B,b<w.heap.size):v.Off w' B:=by
 refine ⟨fun hn g hg=>⟨fun e=>?_,?_⟩,fun hn g hg=>⟨fun e=>?_,?_⟩⟩
 ·have:=h.f g hg;have:=hB g e;omega
 ·obtain ⟨b,o,F,e,_,f0,_⟩:=fls_src (k:=0) h.st.fl (by omega)
  rw [e] at hg
  have e2:b=g:=by simpa using hg
  subst e2
  exact yaf _ _ f0
 ·have:=h.t' g hg;have:=hB g e;omega
 ·obtain ⟨b,o,F,e,_,f0,_⟩:=trs_src (k:=0) h.st.ti (by omega)
  rw [e] at hg
  have e2:b=g:=by simpa using hg
  subst e2
  exact yaf _ _ f0
theorem NewV.put {w w' w'':World}{v:StoV}{t:Sta}{sb:Nat}(h:NewV w v w' t) (hno:∀o s,w'.cell? ⟨sb,o,none⟩≠some (.string s)) (hc:Chg (·=sb) w' w'') (hsb:w.heap.size≤sb):NewV w v w'' t :=
 ⟨⟨h.st.fl.chg0 hc (fls_apart h.st.fl hno),h.st.ti.chg0 hc (trs_apart h.st.ti hno),h.st.ok,h.st.fn63,h.st.tn63⟩,h.f,h.t',h.ext.stored1 hc hsb⟩
theorem restK_yes {S:DiskS}{t:Sta}{M:List (ByteArray×Value)}{w:World}{mb:Nat}(hm:SetM w mb (zbQ t) M) (h:∀p∈M,(aget S.files p.1).isSome=true):restK S t=(0,t):=by
 unfold restK
 rw [if_pos]
 rw [yaV]
 intro n hn
 have h1:=hm.val n
 rw [if_pos hn] at h1
 exact h _ (zaY h1)
theorem restK_no {S:DiskS}{t:Sta}{M:List (ByteArray×Value)}{w:World}{mb:Nat}(hm:SetM w mb (zbQ t) M) {p:ByteArray×Value}(hp:p∈M) (h:(aget S.files p.1).isSome=false):restK S t=(24,t):=by
 unfold restK
 rw [if_neg]
 intro ha
 have hn:p.1∈zbQ t:=by
  have h1:=hm.val p.1
  have h2:(aget M p.1).isSome=true:=zbG.2 (yax hp)
  by_cases hn:p.1∈zbQ t
  ·exact hn
  ·rw [if_neg hn] at h1
   rw [h1] at h2
   simp at h2
 have:=yaV.1 ha p.1 hn
 rw [h] at this
 simp at this
structure LookI (mb r:Nat) (S:DiskS) (M left:List (ByteArray×Value)) (w wr:World):Prop where
 iter:Iter (fun s:ByteArray=>Value.string s) wr mb r M left
 sub:∀p∈left,p∈M
 done:∀p∈M,p∈left∨(aget S.files p.1).isSome=true
 ext:Ext w wr
 new:w.heap.size≤r
theorem stoOpen_any {w:World}{d c:Nat}{S:DiskS}{B:List Nat}(inv:DInv S c) (hc:c≤800000) (hd:zbj w d S B) (g:Int) (hr:mkR ⟨false,0,g⟩=true) (a:Option Addr) (n k:Nat) (own:Sta) (al:Sta→Bool) (hg:HasET w)
 (hfr:∀W,Ext w W→Calls Tryz.prog 30 #[.agg #[.bool false,.int .i64 0,.int .i64 g],.slice a n k] W (FreshTo W own))
 (hal:∀W (s:Sta) (v v0:StoV),Ext w W→v.In W s→v0.In W own→s.ti.length≤1000000→Calls Tryz.prog 32 #[.agg (staC s v.fa v.fn v.fc v.ta v.tn v.tc),.agg (staC own v0.fa v0.fn v0.fc v0.ta v0.tn v0.tc)] W fun e w'=>e=.returned (.bool (al s))∧Ext W w')
 (hsz:∀t:Sta,(t=own∨t=(loadS S).1)→t.fl.length≤1000000∧t.ti.length≤1000000) :
 Calls Tryz.prog 10 #[.pointer (some ⟨d,0,none⟩),.int .i64 g,.slice a n k] w (OpenSto w d S B (stoK S own al)):=by
 have HI:=hid inv
 have HD:=hid hd
 have HG:=hid hg
 have HFR:=hid hfr
 have HAL:=hid hal
 have HSZ:=hid hsz
 have HWN:=hid (fun W (hW:Ext w W)=>waterNew_any W g hr (hg.ext hW))
 obtain ⟨K,hK⟩:∃K,K=stoK S own al:=⟨_,rfl⟩
 have HK:=hid hK
 rw [←hK]
 clear inv hd hg hfr hal hsz hr hK
 go_enter Tryz.func10,Tryz.ntmps10
 go_wp2_with fail
 refine (disk_read_any HI.out.ok HD.out fS).mono ?_
 rintro e w1 ⟨rv,rfl,hx1⟩
 have HX1:=hid hx1
 obtain ⟨z,hz⟩:∃z:Int,z=if (aget S.files fS).isSome=true then 0 else 13:=⟨_,rfl⟩
 rw [←hz]
 have hz1:(z==1)=false:=by rw [hz];split<;>rfl
 clear hx1 hz
 go_wp2_with fail
 refine (HWN.out w1 HX1.out).mono ?_
 rintro e w2 ⟨rfl,hx2⟩
 have HX2:=hid (HX1.out.trans hx2)
 clear hx2
 go_upto_region 5 with fail
 generalize hW:World.alloc _ _=w3
 obtain ⟨mk,hmk⟩:∃b,b=w2.heap.size:=⟨_,rfl⟩
 rw [←hmk]
 have HX3:Hid (Ext w w3):=hid (HX2.out.trans (by rw [←hW];exact (Ext.refl w2).alloc _))
 have HMK:Hid (w3.heap[mk]?=some (.cells #[.bool false,.int .i64 0,.int .i64 g] 46 (0,0))):=hid (by rw [←hW,hmk];exact heap_alloc_new w2 _)
 clear hW hmk
 go_wp2_with (refine zat rfl _ _ rfl _ _ _ _ _ rfl HMK.out Tryz.underlying46 rfl zbK ?_)
 refine (HFR.out w3 HX3.out).mono ?_
 rintro e w4 ⟨v0,rfl,hin0,hx4,hf0,ht0⟩
 have HNV:Hid (NewV w v0 w4 own):=hid ⟨hin0,fun g hg=>by have:=hf0 g hg;have:=HX3.out.size;omega,fun g hg=>by have:=ht0 g hg;have:=HX3.out.size;omega,HX3.out.trans hx4⟩
 clear hin0 hx4 hf0 ht0
 obtain ⟨fa0,fn0,fc0,ta0,tn0,tc0⟩:=v0
 obtain ⟨x0,r0,q0,⟨mb0,mt0,mg0⟩,fl0,ti0⟩:=own
 go_upto_region 6 with fail
 generalize hW:World.alloc _ _=w5
 obtain ⟨ob,hob⟩:∃b,b=w4.heap.size:=⟨_,rfl⟩
 rw [←hob]
 have hx5:Ext w4 w5:=by rw [←hW];exact (Ext.refl w4).alloc _
 have HNV5:=hid (HNV.out.more hx5)
 have HX5:Hid (Ext w w5):=hid HNV5.out.ext
 have HOB:Hid (w5.heap[ob]?=some (.cells #[.int .i64 x0,.int .i64 r0,.int .i64 q0,.bool mb0,.int .i64 mt0,.int .i64 mg0,.slice fa0 fn0 fc0,.slice ta0 tn0 tc0] 66 (0,0))):=hid (by rw [←hW,hob];exact heap_alloc_new w4 _)
 clear hW hob hx5 HNV HX3 HMK HX2 HX1
 go_wp2_with fail
 refine (manLoadF_any HI.out.ok (HD.out.ext HX5.out) (HG.out.ext HX5.out)).mono ?_
 rintro e w6 ⟨fa,fn,fc,ta,tn,tc,rfl,hx6,hin,hfo,hto⟩
 obtain ⟨L,hL⟩:∃L,L=loadS S:=⟨_,rfl⟩
 rw [←hL] at hin ⊢
 have HSL:Hid (L=loadS S):=hid hL
 have HKL:Hid (K=if L.2.2≠0 then (L.2.2,staZ) else if L.2.1=true then (if al L.1=true then restK S L.1 else (2,staZ)) else restK S ⟨x0,r0,q0,⟨mb0,mt0,mg0⟩,fl0,ti0⟩):=hid (by rw [HK.out];unfold stoK;rw [hL])
 have hnv:NewV w ⟨fa,fn,fc,ta,tn,tc⟩ w6 L.1:=⟨hin,fun g hg=>by have:=hfo g (by rw [zar];exact hg);have:=HX5.out.size;omega,fun g hg=>by have:=hto g (by rw [zar];exact hg);have:=HX5.out.size;omega,HX5.out.trans hx6⟩
 obtain ⟨⟨x,r,q,⟨mb,mt,mg⟩,fl,ti⟩,there,bad⟩:=L
 simp only at hnv HKL ⊢
 have HNS:=hid hnv
 have HNO:=hid (HNV5.out.more hx6)
 have HOB6:=hid ((hx6.block (zab HOB.out)).trans HOB.out)
 clear hx6 hin hfo hto hnv HNV5 HX5 HOB HK hL
 go_upto_block 0 with fail
 generalize hW:World.alloc _ _=w7
 obtain ⟨sb,hsb⟩:∃b,b=w6.heap.size:=⟨_,rfl⟩
 rw [←hsb]
 have hx7:Ext w6 w7:=by rw [←hW];exact (Ext.refl w6).alloc _
 have HSB:Hid (w7.heap[sb]?=some (.cells #[.int .i64 x,.int .i64 r,.int .i64 q,.bool mb,.int .i64 mt,.int .i64 mg,.slice fa fn fc,.slice ta tn tc] 66 (0,0))):=hid (by rw [←hW,hsb];exact heap_alloc_new w6 _)
 have HNS7:=hid (HNS.out.more hx7)
 have HNO7:=hid (HNO.out.more hx7)
 have HOB7:=hid ((hx7.block (zab HOB6.out)).trans HOB6.out)
 have HSN:Hid (w.heap.size≤sb):=hid (by have:=HNS.out.ext.size;omega)
 clear hW hsb hx7 HNS HNO HOB6
 go_cut [14,0] (fun s14 s0 wx=>s14=.pointer (some ⟨sb,0,none⟩)∧s0=.pointer (some ⟨d,0,none⟩)∧Hid (∃(t:Sta) (v:StoV),K=restK S t∧NewV w v wx t∧wx.heap[sb]?=some (.cells (staC t v.fa v.fn v.fc v.ta v.tn v.tc) 66 (0,0))∧t.fl.length≤1000000∧t.ti.length≤1000000))
 case first =>
  have hno:∀o s,w7.cell? ⟨sb,o,none⟩≠some (.string s):=by
   intro o s e
   rw [zaa HSB.out] at e
   rcases o with _|_|_|_|_|_|_|_|o<;>simp at e
  have HNT:=hid hno
  clear hno
  by_cases hb:bad=0
  ·subst hb
   cases there with
   | false =>
    have HKR:Hid (K=restK S ⟨x0,r0,q0,⟨mb0,mt0,mg0⟩,fl0,ti0⟩):=hid (by rw [HKL.out];rfl)
    have HZ:=hid (HSZ.out _ (.inl rfl))
    go_wp2_with (first|(refine zat rfl _ _ rfl _ _ _ _ _ rfl HOB7.out Tryz.underlying66 rfl zaK ?_)|(refine zai rfl _ _ _ rfl _ _ _ _ rfl rfl HSB.out rfl zaK (by simp [Value.oneCell']) ?_;rintro V8 hbV hcV;have HB8:=hid hbV;have HC8:=hid hcV;clear hbV hcV))
    go_meet
    exact ⟨rfl,rfl,hid ⟨_,⟨fa0,fn0,fc0,ta0,tn0,tc0⟩,HKR.out,HNO7.out.put HNT.out HC8.out HSN.out,HB8.out,HZ.out⟩⟩
   | true =>
    have HZ:=hid (HSZ.out ⟨x,r,q,⟨mb,mt,mg⟩,fl,ti⟩ (.inr (by rw [←HSL.out])))
    have HALW:=hid (HAL.out w7 ⟨x,r,q,⟨mb,mt,mg⟩,fl,ti⟩ ⟨fa,fn,fc,ta,tn,tc⟩ ⟨fa0,fn0,fc0,ta0,tn0,tc0⟩ HNS7.out.ext HNS7.out.st HNO7.out.st HZ.out.2)
    obtain ⟨A,hA⟩:∃A,A=al ⟨x,r,q,⟨mb,mt,mg⟩,fl,ti⟩:=⟨_,rfl⟩
    have HKR:Hid (K=if A=true then restK S ⟨x,r,q,⟨mb,mt,mg⟩,fl,ti⟩ else (2,staZ)):=hid (by rw [HKL.out,hA];rfl)
    rw [←hA] at HALW
    clear hA
    go_wp2_with (first|(refine zat rfl _ _ rfl _ _ _ _ _ rfl HOB7.out Tryz.underlying66 rfl zaK ?_)|(refine zat rfl _ _ rfl _ _ _ _ _ rfl HSB.out Tryz.underlying66 rfl zaK ?_))
    refine HALW.out.mono ?_
    rintro e w8 ⟨rfl,hx8⟩
    have HN8:=hid (HNS7.out.more hx8)
    have HS8:=hid ((hx8.block (zab HSB.out)).trans HSB.out)
    clear hx8
    cases A with
    | true =>
     go_wp2_with fail
     go_meet
     exact ⟨rfl,rfl,hid ⟨_,⟨fa,fn,fc,ta,tn,tc⟩,HKR.out,HN8.out,HS8.out,HZ.out⟩⟩
    | false =>
     go_wp2_with fail
     go_ret2
     rw [HKR.out]
     exact ⟨rfl,HN8.out.ext⟩
  ·have hb0:(bad==0)=false:=yam.2 hb
   have hb1:(bad != 0)=true:=bne_iff_ne.2 hb
   have HKR:Hid (K=(bad,staZ)):=hid (by rw [HKL.out,if_pos hb])
   go_wp2_with fail
   go_ret2
   rw [HKR.out]
   unfold OpenSto
   rw [if_pos hb]
   exact ⟨rfl,HNS7.out.ext⟩
 case rest =>
  obtain ⟨rfl,rfl,H⟩:=hcut
  obtain ⟨t,v,hK,hnv,hsb,hfl,hti⟩:=H.out
  have HKR:=hid hK
  have HNV:=hid hnv
  have HSB:=hid hsb
  have HTL:=hid (And.intro hfl hti)
  obtain ⟨fa,fn,fc,ta,tn,tc⟩:=v
  obtain ⟨x,r,q,⟨mb,mt,mg⟩,fl,ti⟩:=t
  clear hK hnv hsb hfl hti H
  have HFN:Hid (fn≤1000000∧tn≤1000000):=hid ⟨by have h:fl.length=fn:=zbA HNV.out.st.fl;have h2:fl.length≤1000000:=HTL.out.1;omega,by have h:ti.length=tn:=zbm HNV.out.st.ti;have h2:ti.length≤1000000:=HTL.out.2;omega⟩
  go_wp2_with (refine zat rfl _ _ rfl _ _ _ _ _ rfl HSB.out Tryz.underlying66 rfl zaK ?_)
  refine (stoNamed_any wc ⟨x,r,q,⟨mb,mt,mg⟩,fl,ti⟩ fa ta fn fc tn tc HNV.out.st.fl HNV.out.st.ti HFN.out.1 HFN.out.2).mono ?_
  rintro e w9 ⟨nb,M,rfl,hm,hnl,hx9⟩
  obtain ⟨it,hrg,hit⟩:=zdF (P:=Tryz.prog) hm.map Tryz.underlying102
  have HM:=hid hm
  have HNV9:=hid (HNV.out.more hx9)
  have HSB9:=hid ((hx9.block (zab HSB.out)).trans HSB.out)
  have HI0:Hid (LookI nb w9.heap.size S M M w9 (w9.alloc it)):=hid ⟨hit,fun _ h=>h,fun _ h=>.inl h,(Ext.refl w9).alloc it,Nat.le_refl _⟩
  have HNBL:=hid hm.map.lt
  clear hm hnl hx9 hit HNV HSB
  go_wp2_with fail
  clear hrg
  obtain ⟨rb,hrb⟩:∃r:Nat,r=w9.heap.size:=⟨_,rfl⟩
  rw [←hrb] at HI0 ⊢
  clear hrb
  go_loopw [18] (fun _ wr=>∃left:List (ByteArray×Value),Hid (LookI nb rb S M left w9 wr)) (fun _ wr=>zbD wr nb rb)
  case atStart=>exact ⟨M,HI0⟩
  case round =>
   clear HI0
   obtain ⟨left,HR⟩:=hrel
   rcases iter_next (P:=Tryz.prog) HR.out.iter with ⟨rfl,hnx⟩|⟨l1,s,sv,l2,w2,hl,hnx,hen,hi,hch,hsz⟩
   ·have HKY:Hid (K=(0,⟨x,r,q,⟨mb,mt,mg⟩,fl,ti⟩)):=hid (by
     rw [HKR.out]
     exact restK_yes HM.out (fun p hp=>by
      rcases HR.out.done p hp with h|h
      ·simp at h
      ·exact h))
    have HNVR:=hid (HNV9.out.more HR.out.ext)
    have HSBR:=hid ((HR.out.ext.block (zab HSB9.out)).trans HSB9.out)
    go_wp2_with (refine zat rfl _ _ rfl _ _ _ _ _ rfl HSBR.out Tryz.underlying66 rfl zaK ?_)
    generalize hW:World.alloc _ _=wp
    obtain ⟨p,hp⟩:∃b,b=wr.heap.size:=⟨_,rfl⟩
    rw [←hp]
    have hxp:Ext wr wp:=by rw [←hW];exact (Ext.refl wr).alloc _
    have hbox:wp.heap[p]?=some (.cells (stoC d ⟨x,r,q,⟨mb,mt,mg⟩,fl,ti⟩ ⟨fa,fn,fc,ta,tn,tc⟩) 105 (0,0)):=by rw [←hW,hp];exact heap_alloc_new wr _
    have hnp:=HNVR.out.more hxp
    have hwp:w.heap.size≤p:=by rw [hp];exact HNVR.out.ext.size
    have hBlt:=HD.out.lt
    have hgl:∀g,g<wr.heap.size→g≠p:=fun g hg e=>by rw [e,hp] at hg;omega
    have hoff0:=HNVR.out.off (B:=B) hBlt
    have hoff:StoV.Off ⟨fa,fn,fc,ta,tn,tc⟩ wp (p::B):=⟨fun hn g hg=>by
     have h:=hoff0.f hn g hg
     refine ⟨fun e=>?_,yan h.2 hxp.size⟩
     rcases yaq.1 e with e|e
     ·exact hgl g h.2 e
     ·exact h.1 e,fun hn g hg=>by
     have h:=hoff0.t hn g hg
     refine ⟨fun e=>?_,yan h.2 hxp.size⟩
     rcases yaq.1 e with e|e
     ·exact hgl g h.2 e
     ·exact h.1 e⟩
    have HAT:Hid (StoAt wp p d ⟨x,r,q,⟨mb,mt,mg⟩,fl,ti⟩ S B ⟨fa,fn,fc,ta,tn,tc⟩):=hid ⟨hbox,hnp.st,HD.out.ext hnp.ext,fun e=>by have:=hBlt p e;omega,hoff⟩
    have HXP:=hid (And.intro hnp.ext hwp)
    have HNW0:Hid (StoV.New ⟨fa,fn,fc,ta,tn,tc⟩ w):=hid ⟨hnp.f,hnp.t'⟩
    clear hW hp hxp hbox hnp hwp hBlt hgl hoff0 hoff
    go_wp2_with fail
    refine (stoTidy_any HI.out hc HAT.out HFN.out.1 HFN.out.2).mono ?_
    rintro e wz ⟨rfl,hto⟩
    have HTO:=hid hto
    clear hto
    go_wp2_with fail
    go_ret2
    rw [HKY.out]
    refine ⟨p,rfl,?_⟩
    obtain ⟨B',h1,h2,h3⟩:=HTO.out
    refine ⟨_,B',h1,HNW0.out,(Chg.of_ext HXP.out.1).trans h2 (fun _ _ e=>e),fun b hb=>?_,HXP.out.2⟩
    rcases h3 b hb with e|e
    ·exact .inl e
    ·have:=HXP.out.1.size;exact .inr (by omega)
   ·have hmem:(s,sv)∈M:=HR.out.sub (s,sv) (by rw [hl];simp)
    have HL2:Hid (Iter (fun s:ByteArray=>Value.string s) w2 nb rb M (l1++l2)∧Ext w9 w2∧(∀p∈l1++l2,p∈M)∧∀p∈M,p=(s,sv)∨p∈l1++l2∨(aget S.files p.1).isSome=true):=hid ⟨hi,((Chg.of_ext (S:=(·=rb)) HR.out.ext).trans hch (fun _ _ e=>e)).ext (fun i hi e=>by have:=HR.out.new;omega),fun p hp=>HR.out.sub p (by rw [hl];rcases yah.1 hp with e|e<;>simp [e]),fun p hp=>by
     rcases HR.out.done p hp with h|h
     ·rw [hl] at h
      rcases yah.1 h with e|e
      ·exact .inr (.inl (by simp [e]))
      ·rcases yaq.1 e with e|e
       ·exact .inl e
       ·exact .inr (.inl (by simp [e]))
     ·exact .inr (.inr h)⟩
    have HMEM:=hid hmem
    have Hm:Hid (∀V,Ext w2 V→zbD V nb rb<zbD wr nb rb):=hid (fun V hV=>by
     rw [(hi.ext hV).count,HR.out.iter.count,hl];simp)
    have HNW:=hid HR.out.new
    clear hl hi hch hsz hmem
    go_wp2_with fail
    refine (disk_read_any HI.out.ok (HD.out.ext (HNV9.out.ext.trans HL2.out.2.1)) s).mono ?_
    rintro e wy ⟨rv,rfl,hxy⟩
    have HXY:=hid hxy
    clear hxy
    cases hsome:(aget S.files s).isSome with
    | true =>
     have HSM:=hid hsome
     simp only [if_true]
     clear hsome
     go_wp2_with fail
     go_roundw
     case rel =>
      exact ⟨l1++l2,hid ⟨HL2.out.1.ext HXY.out,HL2.out.2.2.1,fun p hp=>by
       rcases HL2.out.2.2.2 p hp with h|h|h
       ·subst h;exact .inr HSM.out
       ·exact .inl h
       ·exact .inr h,HL2.out.2.1.trans HXY.out,HNW.out⟩⟩
     case measure=>exact Hm.out _ HXY.out
    | false =>
     have HKN:Hid (K=(24,⟨x,r,q,⟨mb,mt,mg⟩,fl,ti⟩)):=hid (by rw [HKR.out];exact restK_no HM.out HMEM.out hsome)
     clear hsome
     go_wp2_with fail
     go_ret2
     rw [HKN.out]
     exact ⟨rfl,(HNV9.out.ext.trans HL2.out.2.1).trans HXY.out⟩
end
section
open Go.RowKit Go.Sort Go.Lib
def trA (a b:Tr):Bool:=(a.w==b.w)&&(a.o==b.o)
def tiA:List Tr→List Tr→Bool
 | [],[]=>true
 | a::l,b::k=>trA a b&&tiA l k
 | _,_=>false
def alikeB (own s:Sta):Bool:=(s.km.g==own.km.g)&&tiA s.ti own.ti
theorem tiA_len:∀{l k:List Tr},l.length≠k.length→tiA l k=false
 | [],[],h=>absurd rfl h
 | [],_::_,_=>rfl
 | _::_,[],_=>rfl
 | a::l,b::k,h=>by
  rw [tiA,tiA_len (by simpa using h),Bool.and_false]
theorem tiA_drop {l k:List Tr}{j:Nat}{a b:Tr}(h1:l[j]?=some a) (h2:k[j]?=some b):tiA (l.drop j) (k.drop j)=(trA a b&&tiA (l.drop (j+1)) (k.drop (j+1))):=by
 obtain ⟨hl,e1⟩:=yad.1 h1
 obtain ⟨hk,e2⟩:=yad.1 h2
 rw [yaA hl,yaA hk,e1,e2,tiA]
theorem zbX {w w':World}{a:Addr}{v:Value}(hx:Ext w w') (h:w.cell? a=some v):w'.cell? a=some v:=((Chg.of_ext (S:=fun _=>False) hx).cell (yaf w _ h) id).trans h
theorem heap_alloc3S (w:World) (o1 o2 o3:Obj):(((w.alloc o1).alloc o2).alloc o3).heap[w.heap.size+1+1]?=some o3:=by
 have:=heap_alloc_new ((w.alloc o1).alloc o2) o3
 simpa using this
theorem heap_midS (w:World) (o1 o2 o3:Obj):(((w.alloc o1).alloc o2).alloc o3).heap[w.heap.size+1]?=some o2:=by
 have h0:=zaF w o1 o2
 exact (((Ext.refl _).alloc o3).block (zab h0)).trans h0
abbrev trC (a:Tr):Array Value:=#[.int .i64 a.w,.int .i64 a.o,.int .i64 a.u,.bool a.m,.string a.f]
theorem alike1_any (w:World) (a b:Tr) :
 Calls Tryz.prog 62 #[.agg (trC a),.agg (trC b)] w fun e w'=>e=.returned (.bool (trA a b))∧Ext w w':=by
 obtain ⟨aw,ao,au,am,af⟩:=a
 obtain ⟨bw,bo,bu,bm,bf⟩:=b
 have HR:Hid (trA ⟨aw,ao,au,am,af⟩ ⟨bw,bo,bu,bm,bf⟩=((aw==bw)&&(ao==bo))):=hid rfl
 rw [HR.out]
 clear HR
 cases h1:(aw==bw)<;>cases h2:(ao==bo)
 all_goals
  go_enter Tryz.func62,Tryz.ntmps62
  go_upto_region 1 with fail
  obtain ⟨x,hx⟩:∃b,b=w.heap.size:=⟨_,rfl⟩
  obtain ⟨x2,hx2⟩:∃b,b=w.heap.size+1:=⟨_,rfl⟩
  rw [←hx2,←hx]
  generalize hW:World.alloc _ _=W
  have HXW:Hid (Ext w W):=hid (by rw [←hW];exact ((Ext.refl w).alloc _).alloc _)
  have hB:W.heap[x]?=some (.cells #[.int .i64 aw,.int .i64 ao,.int .i64 au,.bool am,.string af] 90 (0,0)):=by rw [←hW,hx,heap_alloc_old _ _ (by simp)];exact heap_alloc_new w _
  have hB2:W.heap[x2]?=some (.cells #[.int .i64 bw,.int .i64 bo,.int .i64 bu,.bool bm,.string bf] 90 (0,0)):=by rw [←hW,hx2];exact zaF w _ _
  clear hW hx hx2
  have y0:=zaa hB 0
  have y1:=zaa hB 1
  have z0:=zaa hB2 0
  have z1:=zaa hB2 1
  simp at y0 y1 z0 z1
  clear hB hB2
  go_wp2_with fail
  go_ret
  exact ⟨rfl,HXW.out⟩
theorem equalTiers_any (w:World) (a b:Option Addr) (n c m k:Nat) (l r:List Tr) (hl:Src w 5 (.slice a n c) n (trs l)) (hr:Src w 5 (.slice b m k) m (trs r)) (hn:n≤1000000) (hm:m≤1000000) :
 Calls Tryz.prog 61 #[.slice a n c,.slice b m k,.func (.func 62) #[] #[]] w fun e w'=>e=.returned (.bool (tiA l r))∧Ext w w':=by
 have HL:=hid hl
 have HRS:=hid hr
 have HNL:=hid (And.intro (zbm hl) (zbm hr))
 clear hl hr
 by_cases hnm:n=m
 ·subst hnm
  go_enter Tryz.func61,Tryz.ntmps61
  go_wp2_with fail
  go_loopw [17] (fun s wr=>∃j:Nat,s=.int .i64 (j:Int)∧j≤n∧Hid (tiA l r=tiA (l.drop j) (r.drop j)∧Ext w wr)) (fun t _=>n-(RowKit.intOf t).toNat)
  case atStart=>exact ⟨0,rfl,Nat.zero_le _,hid ⟨rfl,Ext.refl _⟩⟩
  case round =>
   obtain ⟨j,rfl,hj,HI⟩:=hrel
   by_cases hlt:j<n
   ·obtain ⟨ab,ao,A,rfl,hA,a0,a1,a2,a3,a4⟩:=trs_src (HL.out.ext HI.out.2) hlt
    obtain ⟨bb,bo,B,rfl,hB,b0,b1,b2,b3,b4⟩:=trs_src (HRS.out.ext HI.out.2) hlt
    have HD:=hid (tiA_drop hA hB)
    obtain ⟨aw,aq,au,am,af⟩:=A
    obtain ⟨bw,bq,bu,bm,bf⟩:=B
    simp only at a0 a1 a2 a3 a4 b0 b1 b2 b3 b4
    clear hA hB
    go_upto_region 6 with fail
    generalize hV:World.alloc _ _=V
    obtain ⟨x,hx⟩:∃b,b=wr.heap.size:=⟨_,rfl⟩
    rw [←hx]
    have HXV:Hid (Ext wr V):=hid (by rw [←hV];exact (Ext.refl wr).alloc _)
    have HBX:Hid (V.heap[x]?=some (.cells #[.int .i64 aw,.int .i64 aq,.int .i64 au,.bool am,.string af] 90 (0,0))):=hid (by rw [←hV,hx];exact heap_alloc_new wr _)
    have d0:=zbX HXV.out b0
    have d1:=zbX HXV.out b1
    have d2:=zbX HXV.out b2
    have d3:=zbX HXV.out b3
    have d4:=zbX HXV.out b4
    clear hV hx a0 a1 a2 a3 a4 b0 b1 b2 b3 b4
    go_upto_region 7 with fail
    generalize hU:World.alloc _ _=U
    obtain ⟨y,hy⟩:∃b,b=V.heap.size:=⟨_,rfl⟩
    rw [←hy]
    have HXU:Hid (Ext V U):=hid (by rw [←hU];exact (Ext.refl V).alloc _)
    have HBY:Hid (U.heap[y]?=some (.cells #[.int .i64 bw,.int .i64 bq,.int .i64 bu,.bool bm,.string bf] 90 (0,0))):=hid (by rw [←hU,hy];exact heap_alloc_new V _)
    have HBX2:=hid ((HXU.out.block (zab HBX.out)).trans HBX.out)
    clear hU hy d0 d1 d2 d3 d4
    go_wp2_with (first|(refine zat rfl _ _ rfl _ _ _ _ _ rfl HBX2.out Tryz.underlying90 rfl tr_info5 ?_)|(refine zat rfl _ _ rfl _ _ _ _ _ rfl HBY.out Tryz.underlying90 rfl tr_info5 ?_))
    refine (alike1_any U ⟨aw,aq,au,am,af⟩ ⟨bw,bq,bu,bm,bf⟩).mono ?_
    rintro e w5 ⟨rfl,hx5⟩
    have HX5:=hid ((HXV.out.trans HXU.out).trans hx5)
    clear hx5
    obtain ⟨t,ht⟩:∃t,t=trA ⟨aw,aq,au,am,af⟩ ⟨bw,bq,bu,bm,bf⟩:=⟨_,rfl⟩
    rw [←ht] at HD ⊢
    clear ht
    cases t with
    | true =>
     have HN:Hid (tiA l r=tiA (l.drop (j+1)) (r.drop (j+1))):=hid (by rw [HI.out.1,HD.out,Bool.true_and])
     go_wp2_with fail
     go_roundw
     case rel=>exact ⟨j+1,by go_num,by omega,hid ⟨HN.out,HI.out.2.trans HX5.out⟩⟩
     case measure=>simp [RowKit.intOf];omega
    | false =>
     have HN:Hid (tiA l r=false):=hid (by rw [HI.out.1,HD.out,Bool.false_and])
     go_wp2_with fail
     go_ret
     rw [HN.out]
     exact ⟨rfl,HI.out.2.trans HX5.out⟩
   ·have HN:Hid (tiA l r=true):=hid (by rw [HI.out.1,List.drop_of_length_le (by have:=HNL.out.1;omega),List.drop_of_length_le (by have:=HNL.out.2;omega)];rfl)
    go_wp2_with fail
    go_ret
    rw [HN.out]
    exact ⟨rfl,HI.out.2⟩
 ·have HN:Hid (tiA l r=false):=hid (tiA_len (by have:=HNL.out;omega))
  have hb:((n:Int)==(m:Int))=false:=yam.2 (by omega)
  have hb1:((n:Int) != (m:Int))=true:=bne_iff_ne.2 (by omega)
  go_enter Tryz.func61,Tryz.ntmps61
  go_wp2_with fail
  go_ret
  rw [HN.out]
  exact ⟨rfl,Ext.refl _⟩
theorem stoAlike_any (w:World) (s own:Sta) (v v0:StoV) (hs:v.In w s) (ho:v0.In w own) (h1:s.ti.length≤1000000) (h2:own.ti.length≤1000000) :
 Calls Tryz.prog 32 #[.agg (staC s v.fa v.fn v.fc v.ta v.tn v.tc),.agg (staC own v0.fa v0.fn v0.fc v0.ta v0.tn v0.tc)] w fun e w'=>e=.returned (.bool (alikeB own s))∧Ext w w':=by
 have e1:s.ti.length=v.tn:=zbm hs.ti
 have e2:own.ti.length=v0.tn:=zbm ho.ti
 have HEQ:=hid (fun W (hW:Ext w W)=>equalTiers_any W v.ta v0.ta v.tn v.tc v0.tn v0.tc s.ti own.ti (hs.ti.ext hW) (ho.ti.ext hW) (by omega) (by omega))
 have HR:Hid (alikeB own s=((s.km.g==own.km.g)&&tiA s.ti own.ti)):=hid rfl
 rw [HR.out]
 obtain ⟨T,hT⟩:∃T,T=tiA s.ti own.ti:=⟨_,rfl⟩
 rw [←hT] at HEQ ⊢
 obtain ⟨x,r,q,⟨mb,mt,mg⟩,fl,ti⟩:=s
 obtain ⟨x0,r0,q0,⟨mb0,mt0,mg0⟩,fl0,ti0⟩:=own
 obtain ⟨fa,fn,fc,ta,tn,tc⟩:=v
 obtain ⟨fa0,fn0,fc0,ta0,tn0,tc0⟩:=v0
 simp only at HEQ ⊢
 clear hs ho h1 h2 e1 e2 HR hT
 cases hb:(mg==mg0)
 all_goals
  go_enter Tryz.func32,Tryz.ntmps32
  go_upto_region 1 with fail
  obtain ⟨b,hb'⟩:∃b,b=w.heap.size:=⟨_,rfl⟩
  obtain ⟨b2,hb2⟩:∃b,b=w.heap.size+1:=⟨_,rfl⟩
  rw [←hb2,←hb']
  generalize hW:World.alloc _ _=W
  have HXW:Hid (Ext w W):=hid (by rw [←hW];exact ((Ext.refl w).alloc _).alloc _)
  have hB:W.heap[b]?=some (.cells #[.int .i64 x,.int .i64 r,.int .i64 q,.bool mb,.int .i64 mt,.int .i64 mg,.slice fa fn fc,.slice ta tn tc] 66 (0,0)):=by rw [←hW,hb',heap_alloc_old _ _ (by simp)];exact heap_alloc_new w _
  have hB2:W.heap[b2]?=some (.cells #[.int .i64 x0,.int .i64 r0,.int .i64 q0,.bool mb0,.int .i64 mt0,.int .i64 mg0,.slice fa0 fn0 fc0,.slice ta0 tn0 tc0] 66 (0,0)):=by rw [←hW,hb2];exact zaF w _ _
  clear hW hb' hb2
  have y5:=zaa hB 5
  have y7:=zaa hB 7
  have z5:=zaa hB2 5
  have z7:=zaa hB2 7
  simp at y5 y7 z5 z7
  clear hB hB2
  go_wp2_with fail
 ·go_ret
  exact ⟨rfl,HXW.out⟩
 ·refine (HEQ.out W HXW.out).mono ?_
  rintro e w2 ⟨rfl,hx2⟩
  have HX2:=hid (HXW.out.trans hx2)
  clear hx2
  go_wp2_with fail
  go_ret
  exact ⟨rfl,HX2.out⟩
theorem stoFresh_none (w:World) (g:Int) (hg:mkR ⟨false,0,g⟩=true) :
 Calls Tryz.prog 30 #[.agg #[.bool false,.int .i64 0,.int .i64 g],.slice none 0 0] w (FreshTo w ⟨0,0,0,⟨false,0,g⟩,[],[]⟩):=by
 have hgb:-9223372036854775808≤g∧g≤9223372036854775807:=by
  simp [mkR,tmB,inB] at hg
  omega
 have HGB:=hid hgb
 clear hg hgb
 go_enter Tryz.func30,Tryz.ntmps30
 go_upto_region 2 with fail
 obtain ⟨b4,hb4⟩:∃b,b=w.heap.size+1:=⟨_,rfl⟩
 obtain ⟨b6,hb6⟩:∃b,b=w.heap.size+1+1:=⟨_,rfl⟩
 rw [←hb6,←hb4]
 generalize hW:World.alloc _ _=W
 have HXW:Hid (Ext w W):=hid (by rw [←hW];exact (((Ext.refl w).alloc _).alloc _).alloc _)
 have HB4:Hid (W.heap[b4]?=some (.cells #[.int .i64 0,.int .i64 0,.int .i64 0,.bool false,.int .i64 0,.int .i64 0,.slice none 0 0,.slice none 0 0] 66 (0,0))):=hid (by rw [←hW,hb4];exact heap_midS w _ _ _)
 have HB6:Hid (W.heap[b6]?=some (.cells #[.int .i64 0,.int .i64 0,.int .i64 0,.bool false,.int .i64 0,.int .i64 g,.slice none 0 0,.slice none 0 0] 66 (0,0))):=hid (by rw [←hW,hb6];exact heap_alloc3S w _ _ _)
 have HBN:Hid (w.heap.size≤b4):=hid (by omega)
 clear hW hb4 hb6
 go_wp2_with fail
 go_loopw [13] (fun s wr=>s=.int .i64 0∧wr=W) (fun _ _=>0)
 case atStart=>exact ⟨rfl,rfl⟩
 case round =>
  obtain ⟨rfl,rfl⟩:=hrel
  go_wp2_with (first|(refine zat rfl _ _ rfl _ _ _ _ _ rfl HB6.out Tryz.underlying66 rfl zaK ?_)|(refine zai rfl _ _ _ rfl _ _ _ _ rfl rfl HB4.out rfl zaK (by simp [Value.oneCell']) ?_;rintro V8 hbV hcV;have HB8:=hid hbV;have HC8:=hid hcV;clear hbV hcV))
  refine yaE (zaU Tryz.results30 _ _ rfl HB8.out Tryz.underlying66 rfl zaK) rfl ?_
  exact ⟨⟨none,0,0,none,0,0⟩,rfl,⟨.inl ⟨rfl,rfl,rfl⟩,.inl ⟨rfl,rfl,rfl⟩,⟨show (-9223372036854775808:Int)≤0 by decide,show (0:Int)≤9223372036854775807 by decide,HGB.out.1,HGB.out.2⟩,by decide,by decide⟩,HXW.out.stored1 HC8.out HBN.out,fun g hg=>by simp at hg,fun g hg=>by simp at hg⟩
end
end Go.Proofs.YtlmfhjipbjkcbaaGreatDoor
