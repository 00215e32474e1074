/- x -/
import Derived.Test.YtlmfhjipbjkcbaaGreatDoorMg1
import Derived.Deep.LoopGhost
set_option maxHeartbeats 4000000
set_option maxRecDepth 100000
set_option linter.unusedSimpArgs false
set_option linter.unusedVariables false
namespace Go.Proofs.YtlmfhjipbjkcbaaGreatDoor
section
open Go.RowKit Go.Sort Go.Lib
def leC (x y:Cur):Prop:=ahead y x=false
theorem leC_ord:LeOrd leC:=by
 constructor
 ·intro a
  show ahead a a=false
  simp only [ahead,Bool.or_eq_false_iff,Bool.and_eq_false_iff,decide_eq_false_iff_not];omega
 ·intro a b c h1 h2
  unfold leC at *
  simp only [ahead,Bool.or_eq_false_iff,Bool.and_eq_false_iff,decide_eq_false_iff_not] at *
  omega
theorem leC_of_ahead {x y:Cur}(h:ahead x y=true):leC x y:=by
 unfold leC
 simp only [ahead,Bool.or_eq_true,yaK,yaL] at h
 simp only [ahead,Bool.or_eq_false_iff,Bool.and_eq_false_iff,decide_eq_false_iff_not]
 omega
def curs (L:List Cur):List Value:=L.flatMap Cur.cells
theorem curs_len (L:List Cur):(curs L).length=L.length*2:=by
 induction L with
 | nil=>rfl
 | cons p l ih=>simp [curs,Cur.cells] at ih ⊢;omega
theorem curs_one (L:List Cur):∀u∈curs L,u.oneCell'=true:=by
 intro u hu
 simp only [curs,List.mem_flatMap,Cur.cells] at hu
 obtain ⟨p,_,hu⟩:=hu
 simp at hu
 rcases hu with rfl|rfl<;>rfl
theorem curs_append (a b:List Cur):curs (a++b)=curs a++curs b:=by simp [curs]
theorem curs_cons (x:Cur) (l:List Cur):curs (x::l)=.slice x.a x.n x.c::.int .i64 x.i::curs l:=by simp [curs,Cur.cells]
theorem curs_at (L:List Cur) (k:Nat) (x:Cur) (h:L[k]?=some x):(curs L)[k*2]?=some (.slice x.a x.n x.c)∧(curs L)[k*2+1]?=some (.int .i64 x.i):=by
 induction L generalizing k with
 | nil=>simp at h
 | cons q l ih =>
  cases k with
  | zero=>simp at h;subst h;simp [curs_cons]
  | succ k =>
   have:=ih k (by simpa using h)
   rw [show (k+1)*2=k*2+2 by omega,curs_cons]
   simpa using this
theorem curs_set (L:List Cur) (k:Nat) (x:Cur):curs (L.set k x)=((curs L).set (k*2) (.slice x.a x.n x.c)).set (k*2+1) (.int .i64 x.i):=by
 induction L generalizing k with
 | nil=>simp [curs]
 | cons q l ih =>
  cases k with
  | zero=>simp [curs_cons]
  | succ k =>
   rw [show (k+1)*2=k*2+2 by omega]
   simp only [List.set_cons_succ,curs_cons,ih]
theorem curs_take (L:List Cur) (n:Nat):curs (L.take n)=(curs L).take (n*2):=by
 induction L generalizing n with
 | nil=>simp [curs]
 | cons q l ih =>
  cases n with
  | zero=>simp [curs]
  | succ n=>rw [show (n+1)*2=n*2+2 by omega];simp only [List.take_succ_cons,curs_cons,ih]
structure HeapAt (W0 w:World) (h:Nat) (v:Value) (L:List Cur):Prop where
 blk:w.heap[h]?=some (.cells #[v,.func (.func 77) #[] #[]] 170 (0,0))
 row:Row w 173 2 v L.length (curs L)
 base:Ext W0 w
 hge:W0.heap.size≤h
 vge:∀g,v.ownBlock=some g→W0.heap.size≤g∧g≠h
 ok:∀x∈L,x.Ok W0
theorem HeapAt.chg {S:Nat→Prop}{W0 w w':World}{h:Nat}{v:Value}{L:List Cur}(H:HeapAt W0 w h v L) (hc:Chg S w w') (h1:¬S h) (h2:∀g,v.ownBlock=some g→¬S g) (h3:∀k,k<W0.heap.size→¬S k):HeapAt W0 w' h v L :=
 ⟨by rw [hc.block _ (zab H.blk) h1];exact H.blk,H.row.chg hc h2,Chg.ext ((Chg.of_ext H.base).trans hc (fun _ _ h=>h)) h3,H.hge,H.vge,H.ok⟩
theorem HeapAt.ext {W0 w w':World}{h:Nat}{v:Value}{L:List Cur}(H:HeapAt W0 w h v L) (hc:Ext w w'):HeapAt W0 w' h v L :=
 H.chg (Chg.of_ext (S:=fun _=>False) hc) id (fun _ _=>id) (fun _ _=>id)
theorem HeapAt.at {W0 w:World}{h:Nat}{a:Option Addr}{n c:Nat}{L:List Cur}(H:HeapAt W0 w h (.slice a n c) L) (h0:L≠[]):∃g,a=some ⟨g,0,none⟩∧n=L.length∧W0.heap.size≤g∧g≠h∧g<w.heap.size ∧
 (∀(k:Nat) (x:Cur),L[k]?=some x→w.cell? ⟨g,k*2,none⟩=some (.slice x.a x.n x.c)∧w.cell? ⟨g,k*2+1,none⟩=some (.int .i64 x.i))∧∀j,w.frozen? ⟨g,j,none⟩=false:=by
 have hl:0<L.length:=List.length_pos_iff.2 h0
 have hrow:=H.row
 have hlt:=fun g=>H.row.lt (g:=g)
 obtain ⟨_,⟨_,hz⟩|⟨g,cap,cur,e,_⟩⟩:=H.row
 ·omega
 ·simp at e
  obtain ⟨rfl,rfl,rfl⟩:=e
  obtain ⟨g1,g2⟩:=H.vge g rfl
  refine ⟨g,rfl,rfl,g1,g2,hlt g rfl,fun k x hx=>?_,fun j=>World.ownsRow.frozenAt hrow j⟩
  have hk:=(yad.1 hx).1
  obtain ⟨e1,e2⟩:=curs_at L k x hx
  exact ⟨(World.ownsRow.cellAt hrow (k*2) (by omega)).trans e1,(World.ownsRow.cellAt hrow (k*2+1) (by omega)).trans e2⟩
theorem HeapAt.set {W0 w:World}{h g:Nat}{n c:Nat}{L:List Cur}(H:HeapAt W0 w h (.slice (some ⟨g,0,none⟩) n c) L) (k:Nat) (x:Cur) (hx:x.Ok W0) :
 HeapAt W0 ((w.setCell ⟨g,k*2,none⟩ (.slice x.a x.n x.c)).setCell ⟨g,k*2+1,none⟩ (.int .i64 x.i)) h (.slice (some ⟨g,0,none⟩) n c) (L.set k x):=by
 obtain ⟨hg,hgh⟩:=H.vge g rfl
 have hn:L.length=n:=by
  obtain ⟨_,⟨e,_⟩|⟨g',cap,cur,e,_⟩⟩:=H.row
  ·simp at e
  ·simp at e;exact e.2.1.symm
 have hrow:=H.row
 rw [hn] at hrow
 obtain ⟨r1,_⟩:=World.ownsRow.stored hrow (k*2) (.slice x.a x.n x.c)
 obtain ⟨r2,_⟩:=World.ownsRow.stored r1 (k*2+1) (.int .i64 x.i)
 have hc1:=zaj w g (k*2) (.slice x.a x.n x.c)
 have hc2:=zaj (w.setCell ⟨g,k*2,none⟩ (.slice x.a x.n x.c)) g (k*2+1) (.int .i64 x.i)
 have hc:=hc1.trans hc2 (fun _ _ h=>h)
 refine ⟨by rw [hc.block _ (zab H.blk) (fun e=>hgh e.symm)];exact H.blk,?_,Chg.ext ((Chg.of_ext H.base).trans hc (fun _ _ h=>h)) (fun i hi e=>by omega),H.hge,H.vge,fun y hy=>?_⟩
 ·rw [List.length_set,hn,curs_set];exact r2
 ·rcases List.mem_or_eq_of_mem_set hy with hy|rfl
  ·exact H.ok y hy
  ·exact hx
theorem HeapAt.grow {W0 w w2 w3:World}{h:Nat}{v v':Value}{L:List Cur}{x:Cur}(H:HeapAt W0 w h v L) (hx:x.Ok W0) (h2:Ext w w2) (hrow:Row w3 173 2 v' (L.length+1) (curs L++curs [x]))
 (hc:Chg (fun k=>v.ownBlock=some k) w2 w3) (hv':v'.ownBlock=v.ownBlock∨v'.ownBlock=some w2.heap.size) :
 HeapAt W0 (w3.setCell ⟨h,0,none⟩ v') h v' (L++[x])∧Chg (fun k=>k=h∨v.ownBlock=some k) w (w3.setCell ⟨h,0,none⟩ v'):=by
 have hh:=zab H.blk
 have hh2:h<w2.heap.size:=yan hh h2.size
 have hb3:w3.heap[h]?=some (.cells #[v,.func (.func 77) #[] #[]] 170 (0,0)):=by
  rw [hc.block _ hh2 (fun e=>(H.vge h e).2 rfl),h2.block hh];exact H.blk
 have hne:∀g,v'.ownBlock=some g→W0.heap.size≤g∧g≠h:=by
  intro g hg
  rcases hv' with e|e
  ·exact H.vge g (e▸hg)
  ·rw [e] at hg;cases hg
   exact ⟨Nat.le_trans H.base.size h2.size,by omega⟩
 have hc4:=zaj w3 h 0 v'
 have call:Chg (fun k=>k=h∨v.ownBlock=some k) w (w3.setCell ⟨h,0,none⟩ v') :=
  ((Chg.of_ext (S:=fun k=>k=h∨v.ownBlock=some k) h2).trans hc (fun _ _ h=>.inr h)).trans hc4 (fun _ _ h=>.inl h)
 refine ⟨⟨?_,?_,Chg.ext ((Chg.of_ext H.base).trans call (fun _ _ h=>h)) ?_,H.hge,hne,?_⟩,call⟩
 ·rw [zaq hb3];simp
 ·have:=hrow.chg hc4 (fun g hg=>(hne g hg).2)
  rw [yae,curs_append];exact this
 ·intro i hi
  rintro (rfl|e)
  ·have:=H.hge;omega
  ·have:=(H.vge i e).1;omega
 ·intro y hy
  rcases yah.1 hy with hy|hy
  ·exact H.ok y hy
  ·simp at hy;subst hy;exact hx
theorem info_cur:(Tryz.prog.info? 173).map (fun i=>(i.zero,i.size,i.bytes))=some (some (.agg #[.slice none 0 0,.int .i64 0]),2,32):=by kernel_rfl
def Pushed (W0 w:World) (h:Nat) (v:Value) (L:List Cur) (x:Cur) (w':World):Prop :=
 ∃v' L',HeapAt W0 w' h v' L'∧L'.Perm (x::L)∧Heap leC L'∧Chg (fun k=>k=h∨v.ownBlock=some k) w w'∧(v'.ownBlock=v.ownBlock∨∃g,v'.ownBlock=some g∧w.heap.size≤g)
theorem push_any (W0 w:World) (h:Nat) (v:Value) (L:List Cur) (x:Cur) (H:HeapAt W0 w h v L) (hp:Heap leC L) (hx:x.Ok W0) (hL:L.length<4000) :
 Calls Tryz.prog 79 #[.pointer (some ⟨h,0,none⟩),x.val] w fun e w'=>e=.returned (.tuple #[])∧Pushed W0 w h v L x w':=by
 unfold Cur.val
 have hh:h<w.heap.size:=zab H.blk
 have H':=hid H
 have HP:=hid hp
 have HO:=hid hx
 have hv0:=zaa H.blk 0
 have hv:w.cell? ⟨h,0,none⟩=some v:=by simpa using hv0
 have hvg:=H.vge
 have VG:=hid hvg
 clear H hp hx hv0 hvg
 obtain ⟨va,vn,vc,rfl⟩:∃va vn vc,v=.slice va vn vc:=by obtain ⟨a,c,e⟩:=H'.out.row.shape;exact ⟨a,_,c,e⟩
 go_enter Tryz.func79,Tryz.ntmps79
 go_wp2_with fail
 generalize hW:World.alloc _ _=W
 have HX:Hid (Ext w W):=hid (by subst hW;exact (Ext.refl w).alloc _)
 have c0:W.cell? ⟨w.heap.size,0,none⟩=some (.slice x.a x.n x.c):=by subst hW;simp [go_sem]
 have c1:W.cell? ⟨w.heap.size,1,none⟩=some (.int .i64 x.i):=by subst hW;simp [go_sem]
 replace hv:=(HX.out.cell (p:=⟨h,0,none⟩) hh).trans hv
 clear hW
 obtain ⟨T,hT⟩:∃T:Nat→Bool,T=fun k=>decide ((Value.slice va vn vc).ownBlock=some k):=⟨_,rfl⟩
 have HT:=hid hT
 have t1:T h=false:=by rw [hT];simp;intro e;exact (VG.out h e).2 rfl
 have t2:T w.heap.size=false:=by rw [hT];simp;intro e;have:=H'.out.row.lt e;omega
 clear hT
 have e0:=zaf (T:=T) c0 t2
 have e1:=zaf (T:=T) c1 t2
 have e2:=zaf (T:=T) hv t1
 refine zao 10 (fun w'=>∃p:Turned,w'=turned W T p.d p.f p.os) (.reads [0,1,2,3,4,5] (.one 6 (.one 7 (.reads [8,9] (.one 10 .done))))) (by kernel_rfl) (by kernel_rfl) (fun _ _ dd _ _ hh=>by cases dd<;>exact hh) ?_ ?_
 ·exact zad (Ext.drewN W 1)
 refine zak ?_
 simp only [zac,yab,yaa]
 repeat (go_big_quiet_step (fail))
 refine yaF ?_
 clear e0 e1 e2
 refine zae ?_
 simp only [zac,yab,yaa]
 go_wp2_with fail
 refine zal (zad (((Ext.refl W).alloc _).drew)) (zae ?_)
 generalize hW2:World.drew (World.alloc _ _)=W2
 have HX2:Hid (Ext W W2):=hid (by subst hW2;exact ((Ext.refl W).alloc _).drew)
 have c2:Src W2 2 (.slice (some ⟨W.heap.size,0,none⟩) 1 1) 1 (curs [x]):=by
  refine .inr ⟨_,_,rfl,by simp [curs,Cur.cells],fun j u hj=>?_,curs_one _⟩
  rw [yak,Nat.zero_add]
  subst hW2
  match j,hj with
  | 0,hj=>simp [curs,Cur.cells] at hj;subst hj;simp [go_sem]
  | 1,hj=>simp [curs,Cur.cells] at hj;subst hj;simp [go_sem]
  | j+2,hj=>simp [curs,Cur.cells] at hj
 clear hW2
 obtain ⟨i0,hi,hz0,hz1,hz2⟩:=info_parts info_cur
 obtain ⟨v',W3,happ,hrow3,hchg3,hloc⟩:=zdI (P:=Tryz.prog) W2 168 168 173 i0 _ 2 32 Tryz.underlying168 hi hz0 hz1 hz2 rfl (by decide) ((H'.out.row.ext HX.out).ext HX2.out) c2 (by unfold maxLen;omega) (by omega)
 obtain ⟨va',vc',rfl⟩:=hrow3.shape
 have HA:=hid happ;clear happ
 have HG:=hid (H'.out.grow HO.out (HX.out.trans HX2.out) hrow3 hchg3 hloc)
 have HC3:=hid hchg3
 have HLoc:=hid hloc
 have b3:W3.heap[h]?=some (.cells #[.slice va vn vc,.func (.func 77) #[] #[]] 170 (0,0)):=by
  rw [hchg3.block _ (yan hh (HX.out.trans HX2.out).size) (fun e=>(VG.out h e).2 rfl),(HX.out.trans HX2.out).block hh];exact H'.out.blk
 have hf3:W3.frozen? ⟨h,0,none⟩=false:=zan b3 0
 have hc3:W3.cell? ⟨h,0,none⟩=some (.slice va vn vc):=by have:=zaa b3 0;simpa using this
 have HTT:Hid (∃p:Turned,W3=turned W T p.d p.f p.os):=hid (zas ((Chg.of_ext HX2.out).trans hchg3 (fun i hi e=>by rw [HT.out];simpa using e)))
 clear hchg3 hrow3 hloc b3 hi hz0 hz1 hz2 c0 c1 hv c2
 simp only [zac,yab,yaa]
 refine zbq rfl (.tmp 9) (.tmp 11) 168 rfl _ _ _ _ rfl rfl HA.out ?_
 go_wp2_with fail
 refine zal HTT.out (zak ?_)
 simp only [zac,yab,yaa]
 repeat (go_big_quiet_step (fail))
 refine yaF ?_
 refine zae ?_
 simp only [zac,yab,yaa]
 go_wp2_with fail
 refine zau (zav ?_)
 obtain ⟨hg1,hg2⟩:=HG.out
 generalize W3.setCell _ _=W4 at *
 have H4:=hid hg1;have HC4:=hid hg2
 clear hg1 hg2 HG hc3 hf3
 have hv4:W4.cell? ⟨h,0,none⟩=some (.slice va' (L.length+1) vc'):=by have:=zaa H4.out.blk 0;simpa using this
 go_wp2_with fail
 obtain ⟨g,rfl,hq1,hg0,hgh,hglt,hq2,hq3⟩:=H4.out.at (by simp)
 clear hv4 hq1 hq2 hq3
 go_loopw [4] (fun i wr=>∃(k:Nat) (L':List Cur),i=.int .i64 k∧k<L'.length∧L'.length=L.length+1∧Hid (UpInv leC L' k∧L'.Perm (x::L)∧HeapAt W0 wr h (.slice (some ⟨g,0,none⟩) (L.length+1) vc') L'∧Chg (·=g) W4 wr)) (fun i _=>(intOf i).toNat)
 case atStart =>
  refine ⟨L.length,L++[x],rfl,by simp,by simp,hid ⟨UpInv.new HP.out x,?_,H4.out,Chg.refl _ _⟩⟩
  exact List.perm_append_comm (l₁:=L) (l₂:=[x])
 case round =>
  obtain ⟨k,L',rfl,hk,hl,I⟩:=hrel
  have hvr:wr.cell? ⟨h,0,none⟩=some (.slice (some ⟨g,0,none⟩) (L.length+1) vc'):=by have:=zaa I.out.2.2.1.blk 0;simpa using this
  have hfr:wr.cell? ⟨h,1,none⟩=some (.func (.func 77) #[] #[]):=by have:=zaa I.out.2.2.1.blk 1;simpa using this
  have fin:∀w':World,Hid (Ext wr w'→Heap leC L'→Pushed W0 w h (.slice va vn vc) L x w'):=fun w'=>hid (fun hx hheap=>by
   obtain ⟨_,i2,i3,i4⟩:=I.out
   refine ⟨_,L',i3.ext hx,i2,hheap,(HC4.out.trans i4 (fun i hi e=>?_)).trans (Chg.of_ext (S:=fun _=>False) hx) (fun _ _ h=>h.elim),?_⟩
   ·subst e
    rcases HLoc.out with e|e
    ·exact .inr (e▸rfl)
    ·exfalso
     have h1:i=W2.heap.size:=by simpa [Value.ownBlock] using e
     have:=(HX.out.trans HX2.out).size
     omega
   ·rcases HLoc.out with e|e
    ·exact .inl e
    ·exact .inr ⟨_,e,(HX.out.trans HX2.out).size⟩)
  rcases Nat.eq_zero_or_pos k with rfl|hk0
  ·have hheap:Heap leC L':=I.out.1.done (.inl rfl)
   have Hh:=hid hheap;clear hheap
   go_wp2_with fail
   refine zam [] [0,1,2,3,4,5,6,7,8,9,10,11,12,13,14,15,16,17,18,19,20,21,22] [23,24] (by kernel_rfl) (by kernel_rfl) (fun _ _ dd _ _ hh=>by cases dd<;>exact hh) ?_
   simp only [zac,yab,yaa]
   refine yaF ?_
   repeat (go_big_quiet_step (fail))
   refine yaF ?_
   intro w2 hw'
   have HXw:Hid (Ext wr w2):=hid (by obtain ⟨k,rfl⟩:=hw';exact Ext.drewN _ _)
   clear hw'
   go_wp2_with fail
   go_end0
   exact ⟨rfl,(fin w2).out HXw.out Hh.out⟩
  ·obtain ⟨g',hgg,hnn,hq4,hq5,hq6,hcells,hfz⟩:=I.out.2.2.1.at (fun e=>by rw [e] at hk;simp at hk)
   simp at hgg;subst hgg
   clear hnn
   have hkl:k<L.length+1:=by omega
   have HLn:=hid hl;clear hl
   have hxk:L'[k]?=some L'[k]:=yac hk
   have hyk:L'[(k-1)/2]?=some (L'[(k-1)/2]'(by omega)):=yac (by omega)
   obtain ⟨xk,hxk'⟩:∃xk,xk=L'[k]:=⟨_,rfl⟩
   obtain ⟨yk,hyk'⟩:∃yk,yk=(L'[(k-1)/2]'(by omega)):=⟨_,rfl⟩
   rw [←hxk'] at hxk;rw [←hyk'] at hyk
   clear hxk' hyk'
   obtain ⟨x0,x1⟩:=hcells k xk hxk
   obtain ⟨y0,y1⟩:=hcells _ yk hyk
   have XO:=hid (I.out.2.2.1.ok xk (yag hxk))
   have YO:=hid (I.out.2.2.1.ok yk (yag hyk))
   have XK:=hid hxk;have YK:=hid hyk
   have f0:=hfz (k*2);have f1:=hfz (k*2+1)
   have f2:=hfz ((k-1)/2*2);have f3:=hfz ((k-1)/2*2+1)
   clear hcells hfz hxk hyk
   have hkk:0<(k:Int):=by omega
   go_wp2_with fail
   refine zam [] [0,1,2,3,4,5,6,7,8,9,10,11,12,13,14,15,16,17,18,19,20,21,22] [23,24] (by kernel_rfl) (by kernel_rfl) (fun _ _ dd _ _ hh=>by cases dd<;>exact hh) ?_
   simp only [zac,yab,yaa]
   refine yaF ?_
   repeat (go_big_quiet_step (fail))
   refine yaF ?_
   intro w2 hw'
   have HXw:Hid (Ext wr w2):=hid (by obtain ⟨k,rfl⟩:=hw';exact Ext.drewN _ _)
   clear hw'
   go_wp2_with fail
   refine (before_any xk yk w2 (XO.out.ext (I.out.2.2.1.base.trans HXw.out)) (YO.out.ext (I.out.2.2.1.base.trans HXw.out))).mono ?_
   rintro e w3 ⟨rfl,hx3⟩
   have HX3:=hid (HXw.out.trans hx3);clear hx3 HXw
   cases hah:ahead xk yk
   ·have Hh:Hid (Heap leC L'):=hid (I.out.1.done (.inr (fun a b ha hb=>by
     rw [XK.out] at ha;rw [YK.out] at hb;cases ha;cases hb;exact hah)))
    clear hah
    go_wp2_with fail
    go_end0
    exact ⟨rfl,(fin w3).out HX3.out Hh.out⟩
   ·have HA:=hid hah;clear hah
    have hgr:g<wr.heap.size:=yaf wr _ x0
    have hhr:h<wr.heap.size:=yaf wr _ hvr
    replace hvr:=(HX3.out.cell (p:=⟨h,0,none⟩) hhr).trans hvr
    replace x0:=(HX3.out.cell (p:=⟨g,k*2,none⟩) hgr).trans x0
    replace x1:=(HX3.out.cell (p:=⟨g,k*2+1,none⟩) hgr).trans x1
    replace y0:=(HX3.out.cell (p:=⟨g,(k-1)/2*2,none⟩) hgr).trans y0
    replace y1:=(HX3.out.cell (p:=⟨g,(k-1)/2*2+1,none⟩) hgr).trans y1
    replace f0:=(HX3.out.frozens g (k*2) hgr).trans f0
    replace f1:=(HX3.out.frozens g (k*2+1) hgr).trans f1
    replace f2:=(HX3.out.frozens g ((k-1)/2*2) hgr).trans f2
    replace f3:=(HX3.out.frozens g ((k-1)/2*2+1) hgr).trans f3
    clear hfr
    go_wp2_with fail
    refine zam [9,10,11] [0,1,2,3,4,5,6,7,8,12,13,14,15,16,17,18,19,20,21,22,23,24,25,26,27,28] [29,30,31] (by kernel_rfl) (by kernel_rfl) (fun _ _ dd _ _ hh=>by cases dd<;>exact hh) ?_
    simp only [zac,yab,yaa]
    repeat (go_big_quiet_step (fail))
    refine yaF ?_
    repeat (go_big_quiet_step (fail))
    refine yaF ?_
    intro w4 hw'
    have HX4:Hid (Ext w3 w4):=hid (by obtain ⟨k,rfl⟩:=hw';exact Ext.drewN _ _)
    clear hw'
    have hgr3:g<w3.heap.size:=yaf w3 _ x0
    have hhr3:h<w3.heap.size:=yaf w3 _ hvr
    replace x0:=(HX4.out.cell (p:=⟨g,k*2,none⟩) hgr3).trans x0
    replace x1:=(HX4.out.cell (p:=⟨g,k*2+1,none⟩) hgr3).trans x1
    replace y0:=(HX4.out.cell (p:=⟨g,(k-1)/2*2,none⟩) hgr3).trans y0
    replace y1:=(HX4.out.cell (p:=⟨g,(k-1)/2*2+1,none⟩) hgr3).trans y1
    replace f0:=(HX4.out.frozens g (k*2) hgr3).trans f0
    replace f1:=(HX4.out.frozens g (k*2+1) hgr3).trans f1
    replace f2:=(HX4.out.frozens g ((k-1)/2*2) hgr3).trans f2
    replace f3:=(HX4.out.frozens g ((k-1)/2*2+1) hgr3).trans f3
    clear hvr
    go_wp2_with fail
    obtain ⟨i1,i2,i3,i4⟩:=I.out
    have hs3:=(i3.ext (HX3.out.trans HX4.out)).set k yk YO.out
    have hs4:=hs3.set ((k-1)/2) xk XO.out
    refine ⟨⟨(k-1)/2,swapL L' k ((k-1)/2) xk yk,?_,by rw [swapL_length];omega,by rw [swapL_length];exact HLn.out,hid ⟨i1.step leC_ord hk0 XK.out YK.out (leC_of_ahead HA.out),(swapL_perm XK.out YK.out).trans i2,hs4,?_⟩⟩,?_⟩
    ·rw [show ((k:Int)-1)/2=(((k-1)/2:Nat):Int) by omega]
    ·exact ((((i4.trans (Chg.of_ext (S:=fun _=>False) (HX3.out.trans HX4.out)) (fun _ _ h=>h.elim)).trans (zaj _ g _ _) (fun _ _ h=>h)).trans (zaj _ g _ _) (fun _ _ h=>h)).trans (zaj _ g _ _) (fun _ _ h=>h)).trans (zaj _ g _ _) (fun _ _ h=>h)
    ·simp [intOf];omega
end
section
open Go.RowKit Go.Sort Go.Lib
theorem HeapAt.cut {W0 w:World}{h g:Nat}{n c:Nat}{L:List Cur}(H:HeapAt W0 w h (.slice (some ⟨g,0,none⟩) n c) L) (m:Nat) (hm:m≤L.length) :
 HeapAt W0 (w.setCell ⟨h,0,none⟩ (.slice (some ⟨g,0,none⟩) m c)) h (.slice (some ⟨g,0,none⟩) m c) (L.take m):=by
 have hc:=zaj w h 0 (.slice (some ⟨g,0,none⟩) m c)
 obtain ⟨hg,hgh⟩:=H.vge g rfl
 refine ⟨?_,?_,Chg.ext ((Chg.of_ext H.base).trans hc (fun _ _ h=>h)) (fun i hi e=>by have:=H.hge;omega),H.hge,fun k hk=>H.vge k hk,fun y hy=>H.ok y (List.mem_of_mem_take hy)⟩
 ·rw [zaq H.blk];simp
 ·have hl:(L.take m).length=m:=by simp;omega
  rw [hl]
  have key:Row w 173 2 (.slice (some ⟨g,0,none⟩) m c) m (curs (L.take m)):=by
   obtain ⟨hlen,⟨e,_⟩|⟨g',cap,cur,e,hb,hg',hnc,hcm,hcs,htk⟩⟩:=H.row
   ·simp at e
   ·simp at e
    obtain ⟨rfl,rfl,rfl⟩:=e
    refine ⟨by rw [curs_len,hl],.inr ⟨g,c,cur,rfl,Nat.zero_le _,hg',by omega,hcm,hcs,?_⟩⟩
    rw [curs_take,←htk,List.take_take]
    congr 1;omega
  exact key.chg hc (fun k hk=>by simp [Value.ownBlock] at hk;omega)
def Popped (W0 w:World) (h:Nat) (v:Value) (L:List Cur) (e:Ending) (w':World):Prop :=
 ∃x v' L',e=.returned x.val∧HeapAt W0 w' h v' L'∧(x::L').Perm L∧Heap leC L'∧(∀y∈L,leC x y)∧Chg (fun k=>k=h∨v.ownBlock=some k) w w'∧v'.ownBlock=v.ownBlock
theorem pop_any (W0 w:World) (h:Nat) (v:Value) (L:List Cur) (H:HeapAt W0 w h v L) (hp:Heap leC L) (h0:L≠[]) (hL:L.length<4000) :
 Calls Tryz.prog 80 #[.pointer (some ⟨h,0,none⟩)] w (Popped W0 w h v L):=by
 have hh:h<w.heap.size:=zab H.blk
 obtain ⟨va,vn,vc,rfl⟩:∃va vn vc,v=.slice va vn vc:=by obtain ⟨a,c,e⟩:=H.row.shape;exact ⟨a,_,c,e⟩
 obtain ⟨g,rfl,rfl,hg0,hgh,hglt,hcells,hfz⟩:=H.at h0
 obtain ⟨last,hlast⟩:∃last,L.length=last+1:=⟨L.length-1,by have:=List.length_pos_iff.2 h0;omega⟩
 have hxk:L[0]?=some (L[0]'(by omega)):=yac (by omega)
 have hzk:L[last]?=some (L[last]'(by omega)):=yac (by omega)
 obtain ⟨x,hx⟩:∃x,x=L[0]'(by omega):=⟨_,rfl⟩
 obtain ⟨z,hz⟩:∃z,z=L[last]'(by omega):=⟨_,rfl⟩
 rw [←hx] at hxk;rw [←hz] at hzk
 clear hx hz
 obtain ⟨x0,x1⟩:=hcells 0 x hxk
 obtain ⟨z0,z1⟩:=hcells last z hzk
 simp only [Nat.zero_mul,Nat.zero_add] at x0 x1
 have f0:=hfz 0;have f1:=hfz 1
 have hv:w.cell? ⟨h,0,none⟩=some (.slice (some ⟨g,0,none⟩) L.length vc):=by have:=zaa H.blk 0;simpa using this
 rw [hlast] at hv H hL
 have H':=hid H
 have HP:=hid hp
 have XK:=hid hxk;have ZK:=hid hzk
 have ZO:=hid (H.ok z (yag hzk))
 have HL:=hid hlast
 rw [hlast]
 clear H hp hcells hfz hxk hzk h0 hlast
 go_enter Tryz.func80,Tryz.ntmps80
 go_wp2_with fail
 generalize hW:World.alloc _ _=W
 have HX:Hid (Ext w W):=hid (by subst hW;exact (Ext.refl w).alloc _)
 have B2:Hid (W.heap[w.heap.size]?=some (.cells #[.slice none 0 0,.int .i64 0] 173 (0,0))):=hid (by subst hW;exact heap_alloc_new w _)
 replace hv:=(HX.out.cell (p:=⟨h,0,none⟩) hh).trans hv
 replace x0:=(HX.out.cell (p:=⟨g,0,none⟩) hglt).trans x0
 replace x1:=(HX.out.cell (p:=⟨g,1,none⟩) hglt).trans x1
 clear hW
 have e0:=zaf (T:=fun _=>false) x0 rfl
 have e1:=zaf (T:=fun _=>false) x1 rfl
 have e2:=zaf (T:=fun _=>false) hv rfl
 refine zao 14 (fun w'=>∃p:Turned,w'=turned W (fun _=>false) p.d p.f p.os) (.reads [0,1,2,3,4,5,6,7,8,9,10,11] (.one 12 (.one 13 (.one 14 .done)))) (by kernel_rfl) (by kernel_rfl) (fun _ _ dd _ _ hh=>by cases dd<;>exact hh) ?_ ?_
 ·exact zad (Ext.drewN W 1)
 refine zak ?_
 simp only [zac,yab,yaa]
 repeat (go_big_quiet_step (fail))
 refine yaF ?_
 have X0:=hid x0;have X1:=hid x1
 clear e0 e1 e2 x0 x1 hv
 refine zae ?_
 simp only [zac,yab,yaa]
 go_wp2_with fail
 refine zal (zad ((Ext.refl W).alloc _).drew) (zae ?_)
 simp only [zac,yab,yaa]
 go_wp2_with fail
 refine zal (zad ((Ext.refl W).alloc _).drew) (zae ?_)
 simp only [zac,yab,yaa]
 go_wp2_with fail
 refine zau (zav ?_)
 generalize hW2:World.drew (World.alloc _ _)=W2
 have HX2:Hid (Ext W W2):=hid (by subst hW2;exact ((Ext.refl W).alloc _).drew)
 have B3:Hid (W2.heap[W.heap.size]?=some (.cells #[.slice x.a x.n x.c,.int .i64 x.i] 173 (0,0))):=hid (by subst hW2;exact heap_alloc_new W _)
 have HX2':=hid (HX.out.trans HX2.out)
 have hv:=(HX2'.out.cell (p:=⟨h,0,none⟩) hh).trans (show w.cell? ⟨h,0,none⟩=some (.slice (some ⟨g,0,none⟩) (last+1) vc) by have:=zaa H'.out.blk 0;simpa using this)
 replace z0:=(HX2'.out.cell (p:=⟨g,last*2,none⟩) hglt).trans z0
 replace z1:=(HX2'.out.cell (p:=⟨g,last*2+1,none⟩) hglt).trans z1
 replace f0:=(HX2'.out.frozens g 0 hglt).trans f0
 replace f1:=(HX2'.out.frozens g 1 hglt).trans f1
 have hgW:g<W.heap.size:=yan hglt HX.out.size
 have x0:=(HX2.out.cell (p:=⟨g,0,none⟩) hgW).trans X0.out
 have x1:=(HX2.out.cell (p:=⟨g,1,none⟩) hgW).trans X1.out
 clear hW2
 go_wp2_with fail
 refine zam [] [0,1,2,3,4,5,6,7,8,9,10,11] [12] (by kernel_rfl) (by kernel_rfl) (fun _ _ dd _ _ hh=>by cases dd<;>exact hh) ?_
 simp only [zac,yab,yaa]
 refine yaF ?_
 repeat (go_big_quiet_step (fail))
 refine yaF ?_
 intro W3 hw'
 have HX3:Hid (Ext W2 W3):=hid (by obtain ⟨k,rfl⟩:=hw';exact Ext.drewN _ _)
 clear hw'
 have hg2:g<W2.heap.size:=yaf W2 _ x0
 have hh2:h<W2.heap.size:=yaf W2 _ hv
 have B32:W3.heap[h]?=some (.cells #[.slice (some ⟨g,0,none⟩) (last+1) vc,.func (.func 77) #[] #[]] 170 (0,0)):=(HX3.out.block hh2).trans ((HX2'.out.block hh).trans H'.out.blk)
 have hhf:W3.frozen? ⟨h,0,none⟩=false:=zan B32 0
 clear B32
 replace hv:=(HX3.out.cell (p:=⟨h,0,none⟩) hh2).trans hv
 replace x0:=(HX3.out.cell (p:=⟨g,0,none⟩) hg2).trans x0
 replace x1:=(HX3.out.cell (p:=⟨g,1,none⟩) hg2).trans x1
 replace f0:=(HX3.out.frozens g 0 hg2).trans f0
 replace f1:=(HX3.out.frozens g 1 hg2).trans f1
 have hcut:last≤vc:=by
  obtain ⟨_,⟨e,_⟩|⟨g',cap,cur,e,_,_,hnc,_⟩⟩:=H'.out.row
  ·simp at e
  ·have:=HL.out;simp at e;omega
 clear z0 z1
 have HS:=hid (((H'.out.ext HX2'.out).ext HX3.out).set 0 z ZO.out)
 have HC5:=hid (HS.out.cut last (by have:=HL.out;simp;omega))
 have hgh':h≠g:=fun e=>hgh e.symm
 have HC:=hid (show Chg (fun k=>k=h∨(Value.slice (some ⟨g,0,none⟩) (last+1) vc).ownBlock=some k) w (((W3.setCell ⟨g,0*2,none⟩ (.slice z.a z.n z.c)).setCell ⟨g,0*2+1,none⟩ (.int .i64 z.i)).setCell ⟨h,0,none⟩ (.slice (some ⟨g,0,none⟩) last vc)) from
  (((Chg.of_ext (HX2'.out.trans HX3.out)).trans (zaj _ g _ _) (fun _ _ e=>.inr (by rw [e];rfl))).trans (zaj _ g _ _) (fun _ _ e=>.inr (by rw [e];rfl))).trans (zaj _ h _ _) (fun _ _ e=>.inl e))
 have hb2:w.heap.size<W2.heap.size:=yan (zab B2.out) HX2.out.size
 have B2':Hid ((((W3.setCell ⟨g,0*2,none⟩ (.slice z.a z.n z.c)).setCell ⟨g,0*2+1,none⟩ (.int .i64 z.i)).setCell ⟨h,0,none⟩ (.slice (some ⟨g,0,none⟩) last vc)).heap[w.heap.size]?=some (.cells #[.slice none 0 0,.int .i64 0] 173 (0,0))):=hid (by
  rw [zbe (by omega),zbe (by omega),zbe (by omega),HX3.out.block hb2,HX2.out.block (zab B2.out)];exact B2.out)
 have B3':Hid ((((W3.setCell ⟨g,0*2,none⟩ (.slice z.a z.n z.c)).setCell ⟨g,0*2+1,none⟩ (.int .i64 z.i)).setCell ⟨h,0,none⟩ (.slice (some ⟨g,0,none⟩) last vc)).heap[W.heap.size]?=some (.cells #[.slice x.a x.n x.c,.int .i64 x.i] 173 (0,0))):=hid (by
  have:=HX.out.size
  rw [zbe (by omega),zbe (by omega),zbe (by omega),HX3.out.block (zab B3.out)];exact B3.out)
 simp only [Nat.zero_mul,Nat.zero_add] at HC5 HC B2' B3'
 go_wp2_with fail
 generalize hW5:(((W3.setCell ⟨g,0,none⟩ (.slice z.a z.n z.c)).setCell ⟨g,1,none⟩ (.int .i64 z.i)).setCell ⟨h,0,none⟩ (.slice (some ⟨g,0,none⟩) last vc))=W5 at *
 clear hW5
 have hbW:W.heap.size≠g:=by omega
 have hbw:w.heap.size≠g:=by omega
 have hb5:=hid (zab B2'.out)
 have hl5:((L.set 0 z).take last).length=last:=by have:=HL.out;simp;omega
 have HL5:=hid hl5
 clear hl5 hv x0 x1 f0 f1 hhf HS X0 X1 B2 B3
 go_loopw [5,6] (fun si _ wr=>∃(i:Nat) (L':List Cur),si=.int .i64 i∧i≤last∧Hid (L'.length=last∧DownInv leC L' i∧(x::L').Perm L∧HeapAt W0 wr h (.slice (some ⟨g,0,none⟩) last vc) L'∧Chg (·=g) W5 wr)) (fun si _ _=>last-(intOf si).toNat)
 case atStart =>
  exact ⟨0,_,rfl,by omega,hid ⟨HL5.out,DownInv.new HP.out z last,pop_perm HL.out XK.out ZK.out,HC5.out,Chg.refl _ _⟩⟩
 case round =>
  obtain ⟨i,L',rfl,hi,I⟩:=hrel
  have hvr:wr.cell? ⟨h,0,none⟩=some (.slice (some ⟨g,0,none⟩) last vc):=by have:=zaa I.out.2.2.2.1.blk 0;simpa using this
  have hfr:wr.cell? ⟨h,1,none⟩=some (.func (.func 77) #[] #[]):=by have:=zaa I.out.2.2.2.1.blk 1;simpa using this
  have q2:Hid (∀w',Ext wr w'→w'.heap[w.heap.size]?=some (.cells #[.slice none 0 0,.int .i64 0] 173 (0,0))):=hid (fun w' hx=>by
   have h1:=I.out.2.2.2.2.block _ (zab B2'.out) hbw
   rw [hx.block (zab (h1.trans B2'.out)),h1];exact B2'.out)
  have q3:Hid (∀w',Ext wr w'→w'.heap[W.heap.size]?=some (.cells #[.slice x.a x.n x.c,.int .i64 x.i] 173 (0,0))):=hid (fun w' hx=>by
   have h1:=I.out.2.2.2.2.block _ (zab B3'.out) hbW
   rw [hx.block (zab (h1.trans B3'.out)),h1];exact B3'.out)
  have fin:∀w':World,Hid (Ext wr w'→Heap leC L'→Popped W0 w h (.slice (some ⟨g,0,none⟩) (last+1) vc) L (.returned x.val) ((w'.setCell ⟨w.heap.size,0,none⟩ (.slice x.a x.n x.c)).setCell ⟨w.heap.size,1,none⟩ (.int .i64 x.i))):=fun w'=>hid (fun hx hheap=>by
   obtain ⟨_,_,i2,i3,i4⟩:=I.out
   have hcc:Chg (·=w.heap.size) w' ((w'.setCell ⟨w.heap.size,0,none⟩ (.slice x.a x.n x.c)).setCell ⟨w.heap.size,1,none⟩ (.int .i64 x.i)):=(zaj _ _ _ _).trans (zaj _ _ _ _) (fun _ _ h=>h)
   refine ⟨x,_,L',rfl,(i3.ext hx).chg hcc (by omega) (fun k hk=>by simp [Value.ownBlock] at hk;omega) (fun k hk=>by have:=H'.out.base.size;omega),i2,hheap,?_,((HC.out.trans i4 (fun _ _ e=>.inr (by rw [e];rfl))).trans (Chg.of_ext (S:=fun _=>False) hx) (fun _ _ h=>h.elim)).trans hcc (fun _ hi e=>by omega),rfl⟩
   intro y hy
   obtain ⟨k,hk⟩:=List.mem_iff_getElem?.1 hy
   exact HP.out.first leC_ord XK.out k y hk)
  by_cases hk:2*i+1<last
  ·obtain ⟨g',hgg,hnn,hq4,hq5,hq6,hcells,hfz⟩:=I.out.2.2.2.1.at (fun e=>by have:=I.out.1;rw [e] at this;simp at this;omega)
   simp at hgg;subst hgg
   clear hnn
   have hlen:=I.out.1
   have hxk:L'[i]?=some (L'[i]'(by omega)):=yac (by omega)
   have hyk:L'[2*i+1]?=some (L'[2*i+1]'(by omega)):=yac (by omega)
   obtain ⟨xk,hxk'⟩:∃xk,xk=L'[i]'(by omega):=⟨_,rfl⟩
   obtain ⟨yk,hyk'⟩:∃yk,yk=(L'[2*i+1]'(by omega)):=⟨_,rfl⟩
   rw [←hxk'] at hxk;rw [←hyk'] at hyk
   clear hxk' hyk'
   obtain ⟨x0,x1⟩:=hcells i xk hxk
   obtain ⟨y0,y1⟩:=hcells _ yk hyk
   have XO:=hid (I.out.2.2.2.1.ok xk (yag hxk))
   have YO:=hid (I.out.2.2.2.1.ok yk (yag hyk))
   have XI:=hid hxk;have YI:=hid hyk
   have HCE:=hid hcells;have HFZ:=hid hfz;have HLE:=hid hlen
   clear hxk hyk hcells hfz hlen
   by_cases hk1:2*i+1+1<last
   case' neg =>
    have MIN:Hid (∀(j:Nat) (c:Cur),0<j→(j-1)/2=i→L'[j]?=some c→leC yk c):=hid (fun j c h1 h2 h3=>by
     have h4:=(yad.1 h3).1
     have h5:=HLE.out
     obtain rfl:j=2*i+1:=by omega
     rw [YI.out] at h3;cases h3;exact leC_ord.refl _)
    have hb1:decide (2*(i:Int)+1+1<(last:Int))=false:=by simp;omega
    go_wp2_with fail
    refine zam [] [0,1,2,3,4,5,6,7,8,9,10,11,12,13,14,15,16,17,18,19,20,21,22,23] [24,25] (by kernel_rfl) (by kernel_rfl) (fun _ _ dd _ _ hh=>by cases dd<;>exact hh) ?_
    simp only [zac,yab,yaa]
    refine yaF ?_
    repeat (go_big_quiet_step (fail))
    refine yaF ?_
    intro w2 hw'
    have HXa:Hid (Ext wr w2):=hid (by obtain ⟨k,rfl⟩:=hw';exact Ext.drewN _ _)
    clear hw'
    go_wp2_with fail
    clear hb1
    obtain ⟨kk,hkk⟩:∃kk,kk=2*i+1:=⟨_,rfl⟩
    rw [←hkk] at YI y0 y1
    rw [show 2*(i:Int)+1=(kk:Int) by omega]
    have HKK:Hid (0<kk∧(kk-1)/2=i∧kk<last∧i<kk):=hid (by omega)
    clear hk hk1 hkk
    obtain ⟨ck,CI,CO,c0,c1,MIN⟩:∃ck:Cur,Hid (L'[kk]?=some ck)∧Hid (ck.Ok W0)∧wr.cell? ⟨g,kk*2,none⟩=some (.slice ck.a ck.n ck.c)∧wr.cell? ⟨g,kk*2+1,none⟩=some (.int .i64 ck.i)∧Hid (∀(j:Nat) (c:Cur),0<j→(j-1)/2=i→L'[j]?=some c→leC ck c) :=
     ⟨yk,YI,YO,y0,y1,MIN⟩
    clear YI YO y0 y1
   case' pos =>
    have hzk:L'[2*i+1+1]?=some (L'[2*i+1+1]'(by have:=HLE.out;omega)):=yac (by have:=HLE.out;omega)
    obtain ⟨zk,hzk'⟩:∃zk,zk=(L'[2*i+1+1]'(by have:=HLE.out;omega)):=⟨_,rfl⟩
    rw [←hzk'] at hzk
    clear hzk'
    obtain ⟨z0,z1⟩:=HCE.out _ zk hzk
    have ZI:=hid hzk
    have ZOk:=hid (I.out.2.2.2.1.ok zk (yag hzk))
    clear hzk
    have hb1:decide (2*(i:Int)+1+1<(last:Int))=true:=by simp;omega
    go_wp2_with fail
    refine zam [] [0,1,2,3,4,5,6,7,8,9,10,11,12,13,14,15,16,17,18,19,20,21,22,23] [24,25] (by kernel_rfl) (by kernel_rfl) (fun _ _ dd _ _ hh=>by cases dd<;>exact hh) ?_
    simp only [zac,yab,yaa]
    refine yaF ?_
    repeat (go_big_quiet_step (fail))
    refine yaF ?_
    intro wa hw'
    have HXo:Hid (Ext wr wa):=hid (by obtain ⟨k,rfl⟩:=hw';exact Ext.drewN _ _)
    clear hw'
    go_wp2_with fail
    refine (before_any zk yk wa (ZOk.out.ext (I.out.2.2.2.1.base.trans HXo.out)) (YO.out.ext (I.out.2.2.2.1.base.trans HXo.out))).mono ?_
    rintro e w2 ⟨rfl,hx3⟩
    have HXa:=hid (HXo.out.trans hx3);clear hx3 HXo hb1
    cases hah:ahead zk yk
    case' false =>
     have MIN:Hid (∀(j:Nat) (c:Cur),0<j→(j-1)/2=i→L'[j]?=some c→leC yk c):=hid (fun j c h1 h2 h3=>by
      have h4:=(yad.1 h3).1
      have h5:=HLE.out
      rcases (show j=2*i+1∨j=2*i+1+1 by omega) with rfl|rfl
      ·rw [YI.out] at h3;cases h3;exact leC_ord.refl _
      ·rw [ZI.out] at h3;cases h3;exact hah)
     clear hah
     go_wp2_with fail
     obtain ⟨kk,hkk⟩:∃kk,kk=2*i+1:=⟨_,rfl⟩
     rw [←hkk] at YI y0 y1
     rw [show 2*(i:Int)+1=(kk:Int) by omega]
     have HKK:Hid (0<kk∧(kk-1)/2=i∧kk<last∧i<kk):=hid (by omega)
     clear hk hk1 hkk
     obtain ⟨ck,CI,CO,c0,c1,MIN⟩:∃ck:Cur,Hid (L'[kk]?=some ck)∧Hid (ck.Ok W0)∧wr.cell? ⟨g,kk*2,none⟩=some (.slice ck.a ck.n ck.c)∧wr.cell? ⟨g,kk*2+1,none⟩=some (.int .i64 ck.i)∧Hid (∀(j:Nat) (c:Cur),0<j→(j-1)/2=i→L'[j]?=some c→leC ck c) :=
      ⟨yk,YI,YO,y0,y1,MIN⟩
     clear YI YO y0 y1 z0 z1
    case' true =>
     have MIN:Hid (∀(j:Nat) (c:Cur),0<j→(j-1)/2=i→L'[j]?=some c→leC zk c):=hid (fun j c h1 h2 h3=>by
      have h4:=(yad.1 h3).1
      have h5:=HLE.out
      rcases (show j=2*i+1∨j=2*i+1+1 by omega) with rfl|rfl
      ·rw [YI.out] at h3;cases h3;exact leC_of_ahead hah
      ·rw [ZI.out] at h3;cases h3;exact leC_ord.refl _)
     clear hah
     go_wp2_with fail
     obtain ⟨kk,hkk⟩:∃kk,kk=2*i+1+1:=⟨_,rfl⟩
     rw [←hkk] at ZI z0 z1
     rw [show 2*(i:Int)+1+1=(kk:Int) by omega]
     have HKK:Hid (0<kk∧(kk-1)/2=i∧kk<last∧i<kk):=hid (by omega)
     clear hk hk1 hkk
     obtain ⟨ck,CI,CO,c0,c1,MIN⟩:∃ck:Cur,Hid (L'[kk]?=some ck)∧Hid (ck.Ok W0)∧wr.cell? ⟨g,kk*2,none⟩=some (.slice ck.a ck.n ck.c)∧wr.cell? ⟨g,kk*2+1,none⟩=some (.int .i64 ck.i)∧Hid (∀(j:Nat) (c:Cur),0<j→(j-1)/2=i→L'[j]?=some c→leC ck c) :=
      ⟨zk,ZI,ZOk,z0,z1,MIN⟩
     clear YI YO y0 y1 z0 z1
   all_goals
    have hgr:g<wr.heap.size:=yaf wr _ x0
    have hhr:h<wr.heap.size:=yaf wr _ hvr
    replace hvr:=(HXa.out.cell (p:=⟨h,0,none⟩) hhr).trans hvr
    replace hfr:=(HXa.out.cell (p:=⟨h,1,none⟩) hhr).trans hfr
    replace x0:=(HXa.out.cell (p:=⟨g,i*2,none⟩) hgr).trans x0
    replace x1:=(HXa.out.cell (p:=⟨g,i*2+1,none⟩) hgr).trans x1
    replace c0:=(HXa.out.cell (p:=⟨g,kk*2,none⟩) hgr).trans c0
    replace c1:=(HXa.out.cell (p:=⟨g,kk*2+1,none⟩) hgr).trans c1
    have hkl:kk<last:=HKK.out.2.2.1
    have hil:i<last:=by have:=HKK.out;omega
    have hkl2:decide (last≤kk)=false:=by simp;omega
    refine zam [] [0,1,2,3,4,5,6,7,8,9,10,11,12,13,14,15,16,17,18,19,20,21] [22,23,24] (by kernel_rfl) (by kernel_rfl) (fun _ _ dd _ _ hh=>by cases dd<;>exact hh) ?_
    simp only [zac,yab,yaa]
    refine yaF ?_
    repeat (go_big_quiet_step (fail))
    refine yaF ?_
    intro w3 hw'
    have HXb:Hid (Ext wr w3):=hid (by obtain ⟨k,rfl⟩:=hw';exact HXa.out.trans (Ext.drewN _ _))
    have HXc:Hid (Ext w2 w3):=hid (by obtain ⟨k,rfl⟩:=hw';exact Ext.drewN _ _)
    clear hw'
    go_wp2_with fail
    refine (before_any ck xk w3 (CO.out.ext (I.out.2.2.2.1.base.trans HXb.out)) (XO.out.ext (I.out.2.2.2.1.base.trans HXb.out))).mono ?_
    rintro e w4 ⟨rfl,hx4⟩
    have HXd:=hid (HXb.out.trans hx4)
    have HXe:=hid (HXc.out.trans hx4);clear hx4 hkl2
    cases hah:ahead ck xk
    ·have Hh:Hid (Heap leC L'):=hid (I.out.2.1.done (fun k a b hk0 hki ha hb=>by
      rw [XI.out] at hb;cases hb
      exact leC_ord.trans _ _ _ hah (MIN.out k a hk0 hki ha)))
     clear hah hvr hfr x0 x1 c0 c1
     have b2:=q2.out w4 HXd.out;have b3:=q3.out w4 HXd.out
     have r0:w4.cell? ⟨W.heap.size,0,none⟩=some (.slice x.a x.n x.c):=by have:=zaa b3 0;simpa using this
     have r1:w4.cell? ⟨W.heap.size,1,none⟩=some (.int .i64 x.i):=by have:=zaa b3 1;simpa using this
     have s0:w4.cell? ⟨w.heap.size,0,none⟩=some (.slice none 0 0):=by have:=zaa b2 0;simpa using this
     have s1:w4.cell? ⟨w.heap.size,1,none⟩=some (.int .i64 0):=by have:=zaa b2 1;simpa using this
     have s2:=zan b2 0
     have s3:=zan b2 1
     have t0:(w4.setCell ⟨w.heap.size,0,none⟩ (.slice x.a x.n x.c)).cell? ⟨w.heap.size,0,none⟩=some (.slice x.a x.n x.c):=by have:=zaa (zaq (i:=0) b2 (.slice x.a x.n x.c)) 0;simpa using this
     have t1:((w4.setCell ⟨w.heap.size,0,none⟩ (.slice x.a x.n x.c)).setCell ⟨w.heap.size,1,none⟩ (.int .i64 x.i)).cell? ⟨w.heap.size,1,none⟩=some (.int .i64 x.i):=by
      have:=zaa (zaq (i:=1) (zaq (i:=0) b2 (.slice x.a x.n x.c)) (.int .i64 x.i)) 1;simpa using this
     have T0:=hid t0;have T1:=hid t1
     clear b2 b3 t0 t1
     go_wp2_with fail
     exact yaE (v:=x.val) (by simp [results,Tryz.results80,go_sem,Cur.val,T0.out,T1.out]) rfl ((fin w4).out HXd.out Hh.out)
    ·have HA:=hid hah
     have hg2':g<w2.heap.size:=yaf w2 _ x0
     have hh2':h<w2.heap.size:=yaf w2 _ hvr
     replace hvr:=(HXe.out.cell (p:=⟨h,0,none⟩) hh2').trans hvr
     replace x0:=(HXe.out.cell (p:=⟨g,i*2,none⟩) hg2').trans x0
     replace x1:=(HXe.out.cell (p:=⟨g,i*2+1,none⟩) hg2').trans x1
     replace c0:=(HXe.out.cell (p:=⟨g,kk*2,none⟩) hg2').trans c0
     replace c1:=(HXe.out.cell (p:=⟨g,kk*2+1,none⟩) hg2').trans c1
     clear hah hfr
     go_wp2_with fail
     refine zam [9] [0,1,2,3,4,5,6,7,8,10,11,12,13,14,15,16,17,18,19,20,21,22,23,24] [25,26,27] (by kernel_rfl) (by kernel_rfl) (fun _ _ dd _ _ hh=>by cases dd<;>exact hh) ?_
     simp only [zac,yab,yaa]
     repeat (go_big_quiet_step (fail))
     refine yaF ?_
     repeat (go_big_quiet_step (fail))
     refine yaF ?_
     intro w5 hw'
     have HXf:Hid (Ext wr w5):=hid (by obtain ⟨k,rfl⟩:=hw';exact HXd.out.trans (Ext.drewN _ _))
     have HXg:Hid (Ext w4 w5):=hid (by obtain ⟨k,rfl⟩:=hw';exact Ext.drewN _ _)
     clear hw' hvr
     have hg4:g<w4.heap.size:=yaf w4 _ x0
     replace x0:=(HXg.out.cell (p:=⟨g,i*2,none⟩) hg4).trans x0
     replace x1:=(HXg.out.cell (p:=⟨g,i*2+1,none⟩) hg4).trans x1
     replace c0:=(HXg.out.cell (p:=⟨g,kk*2,none⟩) hg4).trans c0
     replace c1:=(HXg.out.cell (p:=⟨g,kk*2+1,none⟩) hg4).trans c1
     have f0:=(HXf.out.frozens g (i*2) hgr).trans (HFZ.out (i*2))
     have f1:=(HXf.out.frozens g (i*2+1) hgr).trans (HFZ.out (i*2+1))
     have f2:=(HXf.out.frozens g (kk*2) hgr).trans (HFZ.out (kk*2))
     have f3:=(HXf.out.frozens g (kk*2+1) hgr).trans (HFZ.out (kk*2+1))
     have hik:i<kk:=HKK.out.2.2.2
     go_wp2_with fail
     obtain ⟨i0,i1,i2,i3,i4⟩:=I.out
     have hs3:=(i3.ext HXf.out).set i ck CO.out
     have hs4:=hs3.set kk xk XO.out
     refine ⟨⟨kk,swapL L' i kk xk ck,rfl,by omega,hid ⟨by rw [swapL_length];exact i0,i1.step HKK.out.1 HKK.out.2.1 XI.out CI.out (leC_of_ahead HA.out) MIN.out,((swapL_perm XI.out CI.out).cons x).trans i2,hs4,?_⟩⟩,?_⟩
     ·exact ((((i4.trans (Chg.of_ext (S:=fun _=>False) HXf.out) (fun _ _ h=>h.elim)).trans (zaj _ g _ _) (fun _ _ h=>h)).trans (zaj _ g _ _) (fun _ _ h=>h)).trans (zaj _ g _ _) (fun _ _ h=>h)).trans (zaj _ g _ _) (fun _ _ h=>h)
     ·simp [intOf];omega
  ·have Hh:Hid (Heap leC L'):=hid (I.out.2.1.done (fun k a b hk0 hki ha _=>by
    have h1:=(yad.1 ha).1
    have h2:=I.out.1
    omega))
   have hk1:decide (2*(i:Int)+1+1<(last:Int))=false:=by simp;omega
   have hk2:decide ((last:Int)≤2*(i:Int)+1)=true:=by simp;omega
   go_wp2_with fail
   refine zam [] [0,1,2,3,4,5,6,7,8,9,10,11,12,13,14,15,16,17,18,19,20,21,22,23] [24,25] (by kernel_rfl) (by kernel_rfl) (fun _ _ dd _ _ hh=>by cases dd<;>exact hh) ?_
   simp only [zac,yab,yaa]
   refine yaF ?_
   repeat (go_big_quiet_step (fail))
   refine yaF ?_
   intro w2 hw'
   have HXa:Hid (Ext wr w2):=hid (by obtain ⟨k,rfl⟩:=hw';exact Ext.drewN _ _)
   clear hw' hvr hfr
   go_wp2_with fail
   refine zam [] [0,1,2,3,4,5,6,7,8,9,10,11,12,13,14,15,16,17,18,19,20,21] [22,23,24] (by kernel_rfl) (by kernel_rfl) (fun _ _ dd _ _ hh=>by cases dd<;>exact hh) ?_
   simp only [zac,yab,yaa]
   refine yaF ?_
   repeat (go_big_quiet_step (fail))
   refine yaF ?_
   intro w3 hw'
   have HXb:Hid (Ext wr w3):=hid (by obtain ⟨k,rfl⟩:=hw';exact HXa.out.trans (Ext.drewN _ _))
   clear hw' HXa
   have b2:=q2.out w3 HXb.out;have b3:=q3.out w3 HXb.out
   have r0:w3.cell? ⟨W.heap.size,0,none⟩=some (.slice x.a x.n x.c):=by have:=zaa b3 0;simpa using this
   have r1:w3.cell? ⟨W.heap.size,1,none⟩=some (.int .i64 x.i):=by have:=zaa b3 1;simpa using this
   have s0:w3.cell? ⟨w.heap.size,0,none⟩=some (.slice none 0 0):=by have:=zaa b2 0;simpa using this
   have s1:w3.cell? ⟨w.heap.size,1,none⟩=some (.int .i64 0):=by have:=zaa b2 1;simpa using this
   have s2:=zan b2 0
   have s3:=zan b2 1
   have t0:(w3.setCell ⟨w.heap.size,0,none⟩ (.slice x.a x.n x.c)).cell? ⟨w.heap.size,0,none⟩=some (.slice x.a x.n x.c):=by have:=zaa (zaq (i:=0) b2 (.slice x.a x.n x.c)) 0;simpa using this
   have t1:((w3.setCell ⟨w.heap.size,0,none⟩ (.slice x.a x.n x.c)).setCell ⟨w.heap.size,1,none⟩ (.int .i64 x.i)).cell? ⟨w.heap.size,1,none⟩=some (.int .i64 x.i):=by
    have:=zaa (zaq (i:=1) (zaq (i:=0) b2 (.slice x.a x.n x.c)) (.int .i64 x.i)) 1;simpa using this
   have T0:=hid t0;have T1:=hid t1
   clear b2 b3 t0 t1
   go_wp2_with fail
   exact yaE (v:=x.val) (by simp [results,Tryz.results80,go_sem,Cur.val,T0.out,T1.out]) rfl ((fin w3).out HXb.out Hh.out)
end
end Go.Proofs.YtlmfhjipbjkcbaaGreatDoor
