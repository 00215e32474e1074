/- x -/
import Derived.Deep.Fields
import Derived.ProofKit
import Derived.OpenShut
import Derived.DataShut
import Derived.Test.YtlmfhjipbjkcbaaGreatDoorLwa
set_option maxRecDepth 100000
set_option linter.unusedSimpArgs false
set_option linter.unusedVariables false
namespace Go.Proofs.YtlmfhjipbjkcbaaGreatDoor
section
open Go.RowKit Go.Sort Go.Lib Go.ChangeShapes Go.WideShapes Go.Deep
section
variable {H:Type} {enc:TypeId×Value→H} {P:Program} {w:World} {base:Nat} {spare:Nat→Bool} {held:Bool}
theorem flat_len {α:Type}(cells:α→List Value) (size:Nat) (hsz:∀p,(cells p).length=size) (l:List α):(l.flatMap cells).length=l.length*size:=by
 induction l with
 | nil=>simp
 | cons p l ih=>rw [List.flatMap_cons,yae,ih,hsz,List.length_cons,Nat.add_mul];omega
theorem flat_atg {α:Type}(cells:α→List Value) (size:Nat) (hsz:∀p,(cells p).length=size) (l:List α) (k j:Nat) (p:α) (h:l[k]?=some p) (hj:j<size):(l.flatMap cells)[k*size+j]?=(cells p)[j]?:=by
 induction l generalizing k with
 | nil=>simp at h
 | cons q l ih =>
  cases k with
  | zero =>
   simp at h;subst h
   rw [List.flatMap_cons,Nat.zero_mul,Nat.zero_add,yaN (by rw [hsz];exact hj)]
  | succ k =>
   rw [List.flatMap_cons,yaz (by rw [hsz,Nat.add_mul];omega),hsz,show (k+1)*size+j-size=k*size+j by rw [Nat.add_mul];omega]
   exact ih k (by simpa using h)
theorem open_els {α:Type} [Inhabited α] (cells:α→List Value) (Ok:α→Prop) (size:Nat) (hs0:0<size) (hsz:∀p,(cells p).length=size) (hone:∀p,∀u∈cells p,u.oneCell'=true) {t e:TypeId}{fuel:Nat}{cs:List Value}{x:DataW H×List MemPlace}
 (ht:P.underlying t=some (.slice e)) (hC:P.cellsOf e=size) (hop:∀(fuel:Nat) (cs:List Value) (x:DataW H×List MemPlace),DataW.trod enc P w base spare held fuel e cs=some x→∃p,cs=cells p∧Ok p) (h:DataW.trod enc P w base spare held fuel t cs=some x) :
 ∃(o:Option Addr) (n c:Nat) (l:List α),cs=[.slice o n c]∧Src w size (.slice o n c) n (l.flatMap cells)∧(∀p∈l,Ok p)∧n≤c∧∀B:Nat,(∀k∈x.1.weights P t,k≤B)→n*P.bytesOf e≤B:=by
 rcases open_slice ht h with ⟨rfl,rfl⟩|⟨a,len,cap,m,n,D,Pl,rfl,hb,hl,hm,hmm,rfl,hel⟩
 ·exact ⟨none,0,0,[],rfl,.inl ⟨rfl,rfl,rfl⟩,by simp,Nat.le_refl _,fun B _=>by simp⟩
 ·rw [hC] at hel
  have hlm:len≤m:=by rw [hmm];split<;>omega
  have hpt:∀i,i<len→∃p:α,Ok p∧∀j u,(cells p)[j]?=some u→w.cell? (a.add (i*size+j))=some u:=by
   intro i hil
   obtain ⟨cs',hc,htr⟩:=hel i (by omega)
   obtain ⟨p,rfl,hok⟩:=hop _ _ _ htr
   refine ⟨p,hok,fun j u hj=>?_⟩
   obtain ⟨_,_,hat⟩:=World.cells?_some hc
   have hj3:j<size:=by have:=(yad.1 hj).1;rw [hsz] at this;exact this
   have:=hat j hj3
   rw [Go.Deep.add_add] at this
   rw [this];exact hj
  obtain ⟨F,hF⟩:=choose_lt hpt
  refine ⟨some a,len,cap,(List.range len).map F,rfl,.inr ⟨a,cap,rfl,by rw [flat_len cells size hsz];simp,fun j u hj=>?_,fun u hu=>?_⟩,fun p hp=>?_,hl,fun B hB=>?_⟩
  ·have hj':j<len*size:=by have:=(yad.1 hj).1;rw [flat_len cells size hsz] at this;simpa using this
   have hj3:j/size<len:=Nat.div_lt_of_lt_mul (by rw [Nat.mul_comm];exact hj')
   have hq:((List.range len).map F)[j/size]?=some (F (j/size)):=by simp [yar,List.getElem?_range hj3]
   have hmod:=Nat.mod_lt j hs0
   have hsplit:j=j/size*size+j%size:=by rw [Nat.mul_comm];exact (Nat.div_add_mod j size).symm
   have e0:=flat_atg cells size hsz _ _ (j%size) _ hq hmod
   rw [←hsplit,hj] at e0
   have:=(hF (j/size) hj3).2 (j%size) u e0.symm
   rw [←hsplit] at this
   exact this
  ·obtain ⟨p,_,hu⟩:=List.mem_flatMap.1 hu
   exact hone p u hu
  ·obtain ⟨i,hi,rfl⟩:=yap.1 hp
   exact (hF i (List.mem_range.1 hi)).1
  ·have:=hB ((((List.range len).map D).length+((List.range (m-len)).map fun j=>D (len+j)).length)*P.bytesOf e) (by simp [DataW.weights,ht])
   simp at this
   exact Nat.le_trans (Nat.mul_le_mul_right _ (by omega)) this
end
end
section
open Go.RowKit Go.Sort Go.Lib Go.ChangeShapes Go.WideShapes Go.Deep
section
variable {H:Type} {enc:TypeId×Value→H} {P:Program} {w:World} {base:Nat} {spare:Nat→Bool} {held:Bool}
theorem wf_i64 {z:Int}(h:(Lit.int .i64 z).wf=true):-9223372036854775808≤z∧z≤9223372036854775807:=by
 have:=(Lit.wf_int_iff .i64 z).1 h
 simp [IntKind.min,IntKind.max,IntKind.signed,IntKind.bits] at this
 omega
theorem open_ptw {e it:TypeId}{f0 f1 f2:Field}{fuel:Nat}{cs:List Value}{x:DataW H×List MemPlace}(he:P.underlying e=some (.struct #[f0,f1,f2])) (hone:oneCellFields P #[f0,f1,f2]=true) (hC:P.cellsOf e=3)
 (h0:f0.type=it) (h1:f1.type=it) (h2:f2.type=it) (hi:P.underlying it=some (.int .i64)) (h:DataW.trod enc P w base spare held fuel e cs=some x):∃p:Pt,cs=p.cells∧p.fits:=by
 obtain ⟨xs,n,_,_,hl,hxl,hf⟩:=DataW.trod_struct he h
 rw [hC] at hl
 match cs,hl with
 | [c0,c1,c2],_ =>
  have key:∀(i:Nat) (f:Field) (c:Value),(#[f0,f1,f2]:Array Field)[i]?=some f→f.type=it→([c0,c1,c2].drop i).take 1=[c]→∃z,c=.int .i64 z∧(-9223372036854775808≤z∧z≤9223372036854775807):=by
   intro i f c hfi hft hc
   obtain ⟨ho,hk⟩:=hone_of hone i f hfi
   have h1:=hf i f hfi
   rw [ho,hk,hc,hft] at h1
   have hlt:i<xs.length:=by rw [hxl];exact (Array.getElem?_eq_some_iff.1 hfi).1
   rw [yac hlt] at h1
   obtain ⟨z,hz,_,hwf⟩:=DataW.trod_int hi h1
   exact ⟨z,by simpa using hz,wf_i64 hwf⟩
  obtain ⟨t,rfl,b0⟩:=key 0 f0 c0 rfl h0 rfl
  obtain ⟨v,rfl,b1⟩:=key 1 f1 c1 rfl h1 rfl
  obtain ⟨s,rfl,b2⟩:=key 2 f2 c2 rfl h2 rfl
  exact ⟨⟨t,v,s⟩,rfl,b0,b1,b2⟩
theorem open_ptsw {t e it:TypeId}{f0 f1 f2:Field}{fuel:Nat}{cs:List Value}{x:DataW H×List MemPlace}(ht:P.underlying t=some (.slice e)) (he:P.underlying e=some (.struct #[f0,f1,f2])) (hone:oneCellFields P #[f0,f1,f2]=true) (hC:P.cellsOf e=3)
 (h0:f0.type=it) (h1:f1.type=it) (h2:f2.type=it) (hi:P.underlying it=some (.int .i64)) (h:DataW.trod enc P w base spare held fuel t cs=some x) :
 ∃(o:Option Addr) (n c:Nat) (l:List Pt),cs=[.slice o n c]∧Src w 3 (.slice o n c) n (pts l)∧n≤c∧(∀p∈l,p.fits)∧∀B:Nat,(∀k∈x.1.weights P t,k≤B)→n*P.bytesOf e≤B:=by
 rcases open_slice ht h with ⟨rfl,rfl⟩|⟨a,len,cap,m,n,D,Pl,rfl,hb,hl,hm,hmm,rfl,hel⟩
 ·exact ⟨none,0,0,[],rfl,.inl ⟨rfl,rfl,rfl⟩,Nat.le_refl _,by simp,fun B _=>by simp⟩
 ·rw [hC] at hel
  have hlm:len≤m:=by rw [hmm];split<;>omega
  have hpt:∀i,i<len→∃p:Pt,p.fits∧∀j u,p.cells[j]?=some u→w.cell? (a.add (i*3+j))=some u:=by
   intro i hil
   obtain ⟨cs',hc,htr⟩:=hel i (by omega)
   obtain ⟨p,rfl,hfit⟩:=open_ptw he hone hC h0 h1 h2 hi htr
   refine ⟨p,hfit,fun j u hj=>?_⟩
   obtain ⟨_,_,hat⟩:=World.cells?_some hc
   have hj3:j<3:=by have:=(yad.1 hj).1;simpa [Pt.cells] using this
   have:=hat j hj3
   rw [Go.Deep.add_add] at this
   rw [this];exact hj
  obtain ⟨F,hF⟩:=choose_lt hpt
  refine ⟨some a,len,cap,(List.range len).map F,rfl,.inr ⟨a,cap,rfl,by rw [zdx];simp,fun j u hj=>?_,zck _⟩,hl,fun p hp=>by obtain ⟨i,hi,rfl⟩:=yap.1 hp;exact (hF i (List.mem_range.1 hi)).1,fun B hB=>?_⟩
  ·have hj':j<len*3:=by have:=(yad.1 hj).1;rw [zdx] at this;simpa using this
   have hj3:j/3<len:=by omega
   have hq:((List.range len).map F)[j/3]?=some (F (j/3)):=by simp [yar,List.getElem?_range hj3]
   obtain ⟨e0,e1,e2⟩:=pts_at _ _ _ hq
   have hFF:=(hF (j/3) (by omega)).2
   have hcases:j=j/3*3∨j=j/3*3+1∨j=j/3*3+2:=by omega
   rcases hcases with e|e|e
   ·rw [e,e0] at hj;rw [e];exact hFF 0 u (by simpa [Pt.cells] using hj)
   ·rw [e,e1] at hj;rw [e];exact hFF 1 u (by simpa [Pt.cells] using hj)
   ·rw [e,e2] at hj;rw [e];exact hFF 2 u (by simpa [Pt.cells] using hj)
  ·have:=hB ((((List.range len).map D).length+((List.range (m-len)).map fun j=>D (len+j)).length)*P.bytesOf e) (by simp [DataW.weights,ht])
   simp at this
   exact Nat.le_trans (Nat.mul_le_mul_right _ (by omega)) this
end
end
section
open Go.RowKit Go.Sort Go.Lib Go.ChangeShapes Go.WideShapes Go.Deep
section
variable {H:Type} {enc:TypeId×Value→H} {w:World} {base:Nat} {spare:Nat→Bool} {held:Bool}
instance:Inhabited Fl:=⟨⟨⟨#[]⟩,0,0,0⟩⟩
instance:Inhabited Tr:=⟨⟨0,0,0,false,⟨#[]⟩⟩⟩
end
end
section
open Go.RowKit Go.Sort Go.Lib Go.ChangeShapes Go.WideShapes Go.Deep
section
variable {H:Type} {enc:TypeId×Value→H} {P:Program} {w:World} {base:Nat} {spare:Nat→Bool} {held:Bool}
theorem mem_weightsIn {e:TypeId}{ds:List (DataW H)}{d:DataW H}(h:d∈ds):∀k∈d.weights P e,k∈DataW.weightsAll P e ds:=by
 induction ds with
 | nil=>cases h
 | cons x ds ih =>
  intro k hk
  simp only [DataW.weightsAll,yah]
  rcases yaq.1 h with rfl|h
  ·exact .inl hk
  ·exact .inr (ih h k hk)
theorem open_elsB {α:Type} [Inhabited α] (cells:α→List Value) (Ok:α→Prop) (size:Nat) (hs0:0<size) (hsz:∀p,(cells p).length=size) (hone:∀p,∀u∈cells p,u.oneCell'=true) {t e:TypeId}{fuel:Nat}{cs:List Value}{x:DataW H×List MemPlace}(B:Nat)
 (ht:P.underlying t=some (.slice e)) (hC:P.cellsOf e=size) (hop:∀(fuel:Nat) (cs:List Value) (x:DataW H×List MemPlace),DataW.trod enc P w base spare held fuel e cs=some x→(∀k∈x.1.weights P e,k≤B)→∃p,cs=cells p∧Ok p) (h:DataW.trod enc P w base spare held fuel t cs=some x) (hB:∀k∈x.1.weights P t,k≤B) :
 ∃(o:Option Addr) (n c:Nat) (l:List α),cs=[.slice o n c]∧Src w size (.slice o n c) n (l.flatMap cells)∧(∀p∈l,Ok p)∧n≤c∧n*P.bytesOf e≤B:=by
 rcases open_slice ht h with ⟨rfl,rfl⟩|⟨a,len,cap,m,n,D,Pl,rfl,hb,hl,hm,hmm,rfl,hel⟩
 ·exact ⟨none,0,0,[],rfl,.inl ⟨rfl,rfl,rfl⟩,by simp,Nat.le_refl _,by simp⟩
 ·rw [hC] at hel
  have hlm:len≤m:=by rw [hmm];split<;>omega
  have hpt:∀i,i<len→∃p:α,Ok p∧∀j u,(cells p)[j]?=some u→w.cell? (a.add (i*size+j))=some u:=by
   intro i hil
   obtain ⟨cs',hc,htr⟩:=hel i (by omega)
   obtain ⟨p,rfl,hok⟩:=hop _ _ _ htr (fun q hq=>hB q (by
    simp only [DataW.weights,ht,yaq,yah]
    exact .inr (.inl (mem_weightsIn (yap.2 ⟨i,List.mem_range.2 hil,rfl⟩) q hq))))
   refine ⟨p,hok,fun j u hj=>?_⟩
   obtain ⟨_,_,hat⟩:=World.cells?_some hc
   have hj3:j<size:=by have:=(yad.1 hj).1;rw [hsz] at this;exact this
   have:=hat j hj3
   rw [Go.Deep.add_add] at this
   rw [this];exact hj
  obtain ⟨F,hF⟩:=choose_lt hpt
  refine ⟨some a,len,cap,(List.range len).map F,rfl,.inr ⟨a,cap,rfl,by rw [flat_len cells size hsz];simp,fun j u hj=>?_,fun u hu=>?_⟩,fun p hp=>?_,hl,?_⟩
  ·have hj':j<len*size:=by have:=(yad.1 hj).1;rw [flat_len cells size hsz] at this;simpa using this
   have hj3:j/size<len:=Nat.div_lt_of_lt_mul (by rw [Nat.mul_comm];exact hj')
   have hq:((List.range len).map F)[j/size]?=some (F (j/size)):=by simp [yar,List.getElem?_range hj3]
   have hmod:=Nat.mod_lt j hs0
   have hsplit:j=j/size*size+j%size:=by rw [Nat.mul_comm];exact (Nat.div_add_mod j size).symm
   have e0:=flat_atg cells size hsz _ _ (j%size) _ hq hmod
   rw [←hsplit,hj] at e0
   have:=(hF (j/size) hj3).2 (j%size) u e0.symm
   rw [←hsplit] at this
   exact this
  ·obtain ⟨p,_,hu⟩:=List.mem_flatMap.1 hu
   exact hone p u hu
  ·obtain ⟨i,hi,rfl⟩:=yap.1 hp
   exact (hF i (List.mem_range.1 hi)).1
  ·have:=hB ((((List.range len).map D).length+((List.range (m-len)).map fun j=>D (len+j)).length)*P.bytesOf e) (by simp [DataW.weights,ht])
   simp at this
   exact Nat.le_trans (Nat.mul_le_mul_right _ (by omega)) this
end
structure Sx where
 s:Sta
 fa:Option Addr
 fn:Nat
 fc:Nat
 ta:Option Addr
 tn:Nat
 tc:Nat
instance:Inhabited Sx:=⟨⟨⟨0,0,0,⟨false,0,0⟩,[],[]⟩,none,0,0,none,0,0⟩⟩
section
variable {H:Type} {enc:TypeId×Value→H} {w:World} {base:Nat} {spare:Nat→Bool} {held:Bool}
end
end
section
open Go.RowKit Go.Sort Go.Lib Go.ChangeShapes Go.WideShapes Go.Deep
instance:Inhabited AcM:=⟨⟨0,0,none,0,0,[],0,none,0,0⟩⟩
section
variable {H:Type} {enc:TypeId×Value→H} {w:World} {base:Nat} {spare:Nat→Bool} {held:Bool}
theorem open_acm {fuel:Nat}{cs:List Value}{x:DataW H×List MemPlace}(h:DataW.trod enc Tryz.prog w base spare held fuel 41 cs=some x) (hB:∀k∈x.1.weights Tryz.prog 41,k≤reachBytes) :
 ∃p:AcM,cs=p.cells∧p.Ok w:=by
 obtain ⟨xs,n,_,hxe,hl,hxl,hf⟩:=DataW.trod_struct Tryz.underlying41 h
 subst hxe
 rw [show Tryz.prog.cellsOf 41=5 by kernel_rfl] at hl
 match cs,hl with
 | [c0,c1,c2,c3,c4],_ =>
  have h0:DataW.trod enc Tryz.prog w base spare held n 3 (([c0,c1,c2,c3,c4].drop 0).take (Tryz.prog.cellsOf 3))=xs[0]?:=hf 0 _ rfl
  have h1:DataW.trod enc Tryz.prog w base spare held n 5 (([c0,c1,c2,c3,c4].drop 1).take (Tryz.prog.cellsOf 5))=xs[1]?:=hf 1 _ rfl
  have h2:DataW.trod enc Tryz.prog w base spare held n 38 (([c0,c1,c2,c3,c4].drop 2).take (Tryz.prog.cellsOf 38))=xs[2]?:=hf 2 _ rfl
  have h3:DataW.trod enc Tryz.prog w base spare held n 3 (([c0,c1,c2,c3,c4].drop 3).take (Tryz.prog.cellsOf 3))=xs[3]?:=hf 3 _ rfl
  have h4:DataW.trod enc Tryz.prog w base spare held n 39 (([c0,c1,c2,c3,c4].drop 4).take (Tryz.prog.cellsOf 39))=xs[4]?:=hf 4 _ rfl
  have hx:∀i,i<5→i<xs.length:=fun i hi=>by rw [hxl];exact hi
  rw [yac (hx 0 (by omega)),show Tryz.prog.cellsOf 3=1 by kernel_rfl] at h0
  rw [yac (hx 1 (by omega)),show Tryz.prog.cellsOf 5=1 by kernel_rfl] at h1
  rw [yac (hx 2 (by omega)),show Tryz.prog.cellsOf 38=1 by kernel_rfl] at h2
  rw [yac (hx 3 (by omega)),show Tryz.prog.cellsOf 3=1 by kernel_rfl] at h3
  rw [yac (hx 4 (by omega)),show Tryz.prog.cellsOf 39=1 by kernel_rfl] at h4
  obtain ⟨z0,e0,_⟩:=DataW.trod_int Tryz.underlying3 h0
  obtain ⟨z1,e1,_,w1⟩:=DataW.trod_int Tryz.underlying5 h1
  obtain ⟨pa,pn,pc,l,e2,hs,hc,hfit,hpn⟩:=open_ptsw Tryz.underlying38 Tryz.underlying76 (by kernel_rfl) (by kernel_rfl) rfl rfl rfl Tryz.underlying3 h2
  obtain ⟨z3,e3,_⟩:=DataW.trod_int Tryz.underlying3 h3
  obtain ⟨ka,kn,kc,e4⟩:∃(o:Option Addr) (k c:Nat),[c4]=[Value.slice o k c]:=by
   rcases open_slice Tryz.underlying39 h4 with ⟨e,_⟩|⟨a,len,cap,m,n,D,Pl,e,_⟩
   ·exact ⟨_,_,_,e⟩
   ·exact ⟨_,_,_,e⟩
  have b1:0≤z1∧z1≤255:=by simpa [Lit.wf,IntKind.min,IntKind.max,IntKind.signed,IntKind.bits] using w1
  simp at e0 e1 e2 e3 e4
  subst e0 e1 e2 e3 e4
  have hr:=reachBytes_lt
  have hF:=hpn reachBytes (fun k hk=>hB k (by
   simp only [DataW.weights,Tryz.underlying41]
   exact DataW.weights_mem_each (j:=2) rfl (by rw [yar,yac (hx 2 (by omega))];rfl) k hk))
  rw [show Tryz.prog.bytesOf 76=24 by kernel_rfl] at hF
  refine ⟨⟨z0,z1.toNat,pa,pn,pc,l,z3,ka,kn,kc⟩,?_,⟨hs,hc,?_,?_,fun q hq=>(hfit q hq).2.1⟩⟩
  ·have:((z1.toNat:Nat):Int)=z1:=by omega
   show [Value.int .i64 z0,.int .u8 z1,_,_,_]=[Value.int .i64 z0,.int .u8 (z1.toNat:Int),_,_,_]
   rw [this]
  ·show z1.toNat<256
   omega
  ·show pn<8000000000000
   unfold reachBytes at hF
   omega
theorem open_acms {fuel:Nat}{cs:List Value}{x:DataW H×List MemPlace}(h:DataW.trod enc Tryz.prog w base spare held fuel 22 cs=some x) (hB:∀k∈x.1.weights Tryz.prog 22,k≤reachBytes) :
 ∃(o:Option Addr) (n c:Nat) (l:List AcM),cs=[.slice o n c]∧Src w 5 (.slice o n c) n (acms l)∧(∀p∈l,p.Ok w)∧n≤c∧n<4398046511104:=by
 obtain ⟨o,n,c,l,h1,h2,h3,h4,h5⟩:=open_elsB AcM.cells (fun p=>p.Ok w) 5 (by omega) (fun _=>rfl) (fun s u hu=>by simp [AcM.cells] at hu;rcases hu with rfl|rfl|rfl|rfl|rfl<;>rfl) reachBytes Tryz.underlying22 (by kernel_rfl)
  (fun _ _ _ h hB=>open_acm h hB) h hB
 rw [show Tryz.prog.bytesOf 41=72 by kernel_rfl] at h5
 exact ⟨o,n,c,l,h1,h2,h3,h4,by unfold reachBytes at h5;omega⟩
end
end
end Go.Proofs.YtlmfhjipbjkcbaaGreatDoor
