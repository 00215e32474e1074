/- x -/
import Derived.Test.YtlmfhjipbjkcbaaGreatDoorMap
import Derived.Maps.AppendAt
import Derived.Laws.AppendOwnNone
set_option linter.unusedSimpArgs false
set_option linter.unusedVariables false
namespace Go.Proofs.YtlmfhjipbjkcbaaGreatDoor
section
open Go.RowKit Go.Sort
theorem Chg.of_grown {w w':World}{r:Option Nat}(h:w.grownBy w' r):Chg (fun k=>r=some k) w w' :=
 ⟨h.os,h.tape,h.output,h.size,fun k hk hn=>h.block k hk (fun e=>hn e.symm)⟩
theorem zab {w:World}{b:Nat}{o:Obj}(h:w.heap[b]?=some o):b<w.heap.size:=by
 rcases Nat.lt_or_ge b w.heap.size with h'|h'
 ·exact h'
 ·simp [Array.getElem?_eq_none h'] at h
theorem zaa {w:World}{b:Nat}{cs:Array Value}{t:TypeId}{fr:Nat×Nat}(h:w.heap[b]?=some (.cells cs t fr)) (i:Nat):w.cell? ⟨b,i,none⟩=cs[i]?:=by
 simp [World.cell?,h]
theorem zan {w:World}{b:Nat}{cs:Array Value}{t:TypeId}(h:w.heap[b]?=some (.cells cs t (0,0))) (i:Nat):w.frozen? ⟨b,i,none⟩=false:=by
 simp [World.frozen?,h]
theorem zaq {w:World}{b i:Nat}{cs:Array Value}{t:TypeId}{fr:Nat×Nat}(h:w.heap[b]?=some (.cells cs t fr)) (u:Value):(w.setCell ⟨b,i,none⟩ u).heap[b]?=some (.cells (cs.setIfInBounds i u) t fr):=by
 simp [World.setCell,Array.getElem?_modify,h]
theorem zbe {w:World}{b c i:Nat}(h:c≠b) (u:Value):(w.setCell ⟨b,i,none⟩ u).heap[c]?=w.heap[c]?:=Below.heap_setCell _ _ _ _ h
theorem zaj (w:World) (b i:Nat) (u:Value):Chg (·=b) w (w.setCell ⟨b,i,none⟩ u) :=
 Chg.setCell (S:=(·=b)) (Chg.refl _ w) (p:=⟨b,i,none⟩) (fun _=>rfl) u
theorem Ext.drewN (w:World) (k:Nat):Ext w (w.drewN k):=⟨rfl,rfl,rfl,Nat.le_refl _,fun _ _=>rfl⟩
def Row (w:World) (e:TypeId) (size:Nat) (v:Value) (n:Nat) (xs:List Value):Prop:=w.ownsRow 0 e size v n xs
theorem Row.nil (w:World) (e:TypeId) (size:Nat):Row w e size (.slice none 0 0) 0 []:=⟨by simp,.inl ⟨rfl,rfl⟩⟩
theorem Row.len {w:World}{e:TypeId}{size:Nat}{v:Value}{n:Nat}{xs:List Value}(h:Row w e size v n xs):xs.length=n*size:=h.1
theorem Row.lt {w:World}{e:TypeId}{size:Nat}{v:Value}{n:Nat}{xs:List Value}(h:Row w e size v n xs) {g:Nat}(hg:v.ownBlock=some g):g<w.heap.size:=by
 obtain ⟨_,h|⟨g',cap,cur,rfl,_,hb,_⟩⟩:=h
 ·rw [h.1] at hg;simp [Value.ownBlock] at hg
 ·simp [Value.ownBlock] at hg;subst hg
  rcases Nat.lt_or_ge g' w.heap.size with h|h
  ·exact h
  ·simp [Array.getElem?_eq_none h] at hb
theorem Row.chg {S:Nat→Prop}{w w':World}{e:TypeId}{size:Nat}{v:Value}{n:Nat}{xs:List Value}(h:Row w e size v n xs) (hc:Chg S w w') (hn:∀g,v.ownBlock=some g→¬S g):Row w' e size v n xs:=by
 have hlt:∀g,v.ownBlock=some g→g<w.heap.size:=fun g hg=>h.lt hg
 obtain ⟨h1,h2⟩:=h
 refine ⟨h1,?_⟩
 rcases h2 with h2|⟨g,cap,cur,hv,hg,hh,r⟩
 ·exact .inl h2
 ·refine .inr ⟨g,cap,cur,hv,hg,?_,r⟩
  have ho:v.ownBlock=some g:=by rw [hv];rfl
  rw [hc.block g (hlt g ho) (hn g ho)];exact hh
theorem Row.ext {w w':World}{e:TypeId}{size:Nat}{v:Value}{n:Nat}{xs:List Value}(h:Row w e size v n xs) (hc:Ext w w'):Row w' e size v n xs :=
 h.chg (Chg.of_ext (S:=fun _=>False) hc) (fun _ _=>id)
def Src (w:World) (size:Nat) (sv:Value) (m:Nat) (xs:List Value):Prop :=
 (sv=.slice none 0 0∧m=0∧xs=[]) ∨
 ∃(ad:Addr) (c:Nat),sv=.slice (some ad) m c∧xs.length=m*size∧(∀j u,xs[j]?=some u→w.cell? (ad.add j)=some u)∧∀u∈xs,u.oneCell'=true
theorem Row.src {w:World}{e:TypeId}{size:Nat}{v:Value}{n:Nat}{xs:List Value}(h:Row w e size v n xs) (h1:∀u∈xs,u.oneCell'=true):Src w size v n xs:=by
 obtain ⟨hl,⟨rfl,rfl⟩|⟨g,cap,cur,rfl,_,hb,_,_,hcs,rfl⟩⟩:=h
 ·left;simp at hl;exact ⟨rfl,rfl,hl⟩
 ·refine .inr ⟨_,_,rfl,hl,fun j u hj=>?_,h1⟩
  have hj':j<n*size:=by
   rcases Nat.lt_or_ge j (n*size) with h|h
   ·exact h
   ·simp [yaT,Nat.not_lt.2 h] at hj
  rw [yaT,if_pos hj'] at hj
  have:(⟨g,0,none⟩:Addr).add j=⟨g,j,none⟩:=by unfold Addr.add;split<;>simp_all
  rw [this]
  simp only [World.cell?,hb]
  simpa using hj
theorem Src.chg {S:Nat→Prop}{w w':World}{size:Nat}{v:Value}{n:Nat}{xs:List Value}(h:Src w size v n xs) (hc:Chg S w w') (hn:∀g,v.ownBlock=some g→¬S g):Src w' size v n xs:=by
 rcases h with h|⟨ad,c,rfl,h2,h3,h4⟩
 ·exact .inl h
 ·refine .inr ⟨ad,c,rfl,h2,fun j u hj=>?_,h4⟩
  have hcell:=h3 j u hj
  have hlt:=yaf w _ hcell
  have hb:(ad.add j).block=ad.block:=by unfold Addr.add;split<;>rfl
  rw [hc.cell hlt (by rw [hb];exact hn _ rfl)];exact hcell
theorem Src.ext {w w':World}{size:Nat}{v:Value}{n:Nat}{xs:List Value}(h:Src w size v n xs) (hc:Ext w w'):Src w' size v n xs :=
 h.chg (Chg.of_ext (S:=fun _=>False) hc) (fun _ _=>id)
theorem Row.shape {w:World}{e:TypeId}{size:Nat}{v:Value}{n:Nat}{xs:List Value}(h:Row w e size v n xs):∃a c,v=.slice a n c:=by
 obtain ⟨_,⟨rfl,rfl⟩|⟨g,cap,cur,rfl,_⟩⟩:=h
 ·exact ⟨_,_,rfl⟩
 ·exact ⟨_,_,rfl⟩
theorem zdI {P:Program}(w:World) (t ty e:TypeId) (i:TypeInfo) (z:Value) (size bytes:Nat) (ht:P.underlying t=some (.slice e)) (hi:P.info? e=some i) (hz:i.zero=some z)
 (hsize:i.size=size) (hby:i.bytes=bytes) (hzs:z.cells.size=size) (hsz:0<size)
 {v:Value}{n:Nat}{xs:List Value}(hown:Row w e size v n xs) {sv:Value}{m:Nat}{news:List Value}(hs:Src w size sv m news)
 (h63:n+m≤maxLen) (hbytes:(n+m)*bytes≤140737488355328) :
 ∃v' w',(Builtin.append_ #[t,t] ty #[v,sv]).run P w=.ok v' w'∧Row w' e size v' (n+m) (xs++news)∧Chg (fun k=>v.ownBlock=some k) w w' ∧
  (v'.ownBlock=v.ownBlock∨v'.ownBlock=some w.heap.size):=by
 rcases hs with ⟨rfl,rfl,rfl⟩|⟨ad,c,rfl,hl,hnews,h1⟩
 ·refine ⟨v,w,?_,by simpa using hown,Chg.refl _ _,.inl rfl⟩
  obtain ⟨_,⟨rfl,rfl⟩|⟨g,cap,cur,rfl,_,hb,hle,_⟩⟩:=hown
  ·simp [Builtin.append_,run_underlying ht,sizeOf,typeInfo,hi,Builtin.lenOf,Builtin.firstCells,Result.andThen]
  ·simp [Builtin.append_,run_underlying ht,sizeOf,typeInfo,hi,Builtin.lenOf,Builtin.firstCells,Result.andThen,hle,storeCells]
 ·obtain ⟨v',w',hr,h2,h3,_,h5⟩:=run_append_own_at (P:=P) w 0 t ty e i z size bytes ht hi hz hsize hby hzs hsz v n xs hown ad m c news hl hnews h1 h63 hbytes (Nat.zero_le _)
  exact ⟨v',w',hr,h2,Chg.of_grown h3,h5⟩
section
variable {P:Program} {w:World} {ops:Array Oper} {rest:List Oper} {o:Oper} {a:Act} {Q:Exit→Act→World→Prop}
theorem zbq (hgd:o.guard=none) (s x:Operand) (t:TypeId)
 (ho:o.op=.call { callee:=.builtin .append,args:=#[s,x],argTypes:=#[t,t] }) (v sv v':Value) (w':World) (hs:a.eval s=v) (hx:a.eval x=sv)
 (hr:(Builtin.append_ #[t,t] o.type #[v,sv]).run P w=.ok v' w') (h:wpList P ops Q rest (a.put o.dst v') w') :
 wpList P ops Q (o::rest) a w:=by
 refine wpList_plain hgd fun K hK=>?_
 unfold Oper.wp execOp
 simp only [ho,resolve,invoke,builtin,Sem.run_bind,Sem.run_pure,Result.andThen_ok,List.map_toArray,yaJ,List.map_nil,hs,hx,hr]
 exact hK _ _ h
end
end
section
open Go.RowKit Go.Sort Go.Lib
def u8s (l:List UInt8):List Value:=l.map fun c=>.int .u8 (c.toNat:Int)
theorem zaI (l:List UInt8):(u8s l).length=l.length:=by simp [u8s]
theorem zbE (l k:List UInt8):u8s (l++k)=u8s l++u8s k:=by simp [u8s]
theorem zaH (l:List UInt8):∀u∈u8s l,u.oneCell'=true:=by
 intro u hu
 obtain ⟨c,_,rfl⟩:=yap.1 hu
 rfl
theorem byte_src {w:World}{a:Option Addr}{n c:Nat}{l:List UInt8}(h:Src w 1 (.slice a n c) n (u8s l)) {k:Nat}(hk:k<n) :
 ∃b off x,a=some ⟨b,off,none⟩∧l[k]?=some x∧w.cell? ⟨b,off+k,none⟩=some (.int .u8 (x.toNat:Int)):=by
 rcases h with ⟨_,h,_⟩|⟨ad,c',h,hl,h2,_⟩
 ·omega
 ·simp at h
  obtain ⟨rfl,rfl⟩:=h
  have hl':l.length=n:=by simpa [u8s] using hl
  have hkl:k<l.length:=by omega
  have key:∀(k:Nat) (hkl:k<l.length),w.cell? (ad.add k)=some (.int .u8 (l[k].toNat:Int)):=fun k hkl=>h2 k _ (by simp [u8s,yac hkl])
  obtain ⟨b,off,spot⟩:=ad
  have hz:=key 0 (by omega)
  have hspot:spot=none:=by simpa [Addr.add] using World.cell?_spot hz
  subst hspot
  refine ⟨b,off,l[k],rfl,yac hkl,?_⟩
  rw [←yak];exact key k hkl
theorem zax {w:World}{v:Value}{n:Nat}{l:List UInt8}(h:Src w 1 v n (u8s l)):l.length=n:=by
 rcases h with ⟨_,rfl,h⟩|⟨_,_,_,h,_⟩
 ·cases l with
  | nil=>rfl
  | cons c l=>simp [u8s] at h
 ·simpa [u8s] using h
end
section
def cstep (s:Nat):Nat:=s/2 ^^^ (s%2)*3988292384
theorem cstep_eq (s:Nat):cstep s=if s%2=1 then s/2 ^^^ 3988292384 else s/2:=by
 unfold cstep
 have:s%2=0∨s%2=1:=by omega
 rcases this with h|h<;>simp [h]
theorem mod_two_xor (a b:Nat):(a ^^^ b)%2=(a%2+b%2)%2:=by
 have h:=Nat.xor_mod_two_pow (a:=a) (b:=b) (n:=1)
 simp only [Nat.pow_one] at h
 rw [h]
 have ha:a%2=0∨a%2=1:=by omega
 have hb:b%2=0∨b%2=1:=by omega
 rcases ha with ha|ha<;>rcases hb with hb|hb<;>rw [ha,hb]<;>rfl
theorem cstep_xor (a b:Nat):cstep (a ^^^ b)=cstep a ^^^ cstep b:=by
 unfold cstep
 have h1:(a ^^^ b)/2=a/2 ^^^ b/2:=by
  have:=Nat.shiftRight_xor_distrib (a:=a) (b:=b) (i:=1)
  simpa [Nat.shiftRight_eq_div_pow] using this
 rw [h1,mod_two_xor]
 have ha:a%2=0∨a%2=1:=by omega
 have hb:b%2=0∨b%2=1:=by omega
 generalize a/2=x
 generalize b/2=y
 rcases ha with ha|ha<;>rcases hb with hb|hb<;>simp only [ha,hb,Nat.zero_mul,Nat.one_mul,Nat.xor_zero,Nat.zero_mod,Nat.add_zero,Nat.zero_add]
 ·rw [Nat.xor_assoc]
 ·rw [Nat.xor_assoc,Nat.xor_comm y,←Nat.xor_assoc,Nat.xor_assoc]
 ·have e:x ^^^ 3988292384 ^^^ (y ^^^ 3988292384)=x ^^^ y ^^^ (3988292384 ^^^ 3988292384):=by
   rw [Nat.xor_assoc,←Nat.xor_assoc 3988292384 y,Nat.xor_comm 3988292384 y,Nat.xor_assoc y,←Nat.xor_assoc]
  rw [e];simp
theorem cstep_lt {s:Nat}(h:s<4294967296):cstep s<4294967296:=by
 unfold cstep
 refine Nat.xor_lt_two_pow (n:=32) (by omega) ?_
 have:s%2=0∨s%2=1:=by omega
 rcases this with h|h<;>rw [h]<;>decide
theorem cstep_double (v:Nat):cstep (2*v)=v:=by
 unfold cstep
 have h1:2*v%2=0:=by omega
 have h2:2*v/2=v:=by omega
 rw [h1,h2];simp
def zbH:Nat→Nat→Nat
 | 0,s=>s
 | n+1,s=>zbH n (cstep s)
theorem cstepN_xor (n a b:Nat):zbH n (a ^^^ b)=zbH n a ^^^ zbH n b:=by
 induction n generalizing a b with
 | zero=>rfl
 | succ n ih=>simp only [zbH,cstep_xor,ih]
theorem cstepN_lt (n:Nat) {s:Nat}(h:s<4294967296):zbH n s<4294967296:=by
 induction n generalizing s with
 | zero=>exact h
 | succ n ih=>exact ih (cstep_lt h)
theorem cstepN_add (m n s:Nat):zbH (m+n) s=zbH n (zbH m s):=by
 induction m generalizing s with
 | zero=>simp [zbH]
 | succ m ih=>rw [show m+1+n=(m+n)+1 by omega,zbH,ih];rfl
theorem cstepN_shift (n v:Nat):zbH n (2 ^ n*v)=v:=by
 induction n generalizing v with
 | zero=>simp [zbH]
 | succ n ih =>
  rw [zbH,show 2 ^ (n+1)*v=2*(2 ^ n*v) by rw [Nat.pow_succ];rw [Nat.mul_comm (2 ^ n) 2,Nat.mul_assoc],cstep_double,ih]
theorem xor_split (n s:Nat):s=(s%2 ^ n) ^^^ (2 ^ n*(s/2 ^ n)):=by
 apply Nat.eq_of_testBit_eq
 intro i
 rw [Nat.testBit_xor,Nat.testBit_mod_two_pow,Nat.testBit_two_pow_mul]
 by_cases h:i<n
 ·have:¬n≤i:=by omega
  simp [h,this]
 ·have h2:n≤i:=by omega
  simp [h,h2,Nat.testBit_div_two_pow]
def ctab:List Nat:=[0x00000000,0x1db71064,0x3b6e20c8,0x26d930ac,0x76dc4190,0x6b6b51f4,0x4db26158,0x5005713c,0xedb88320,0xf00f9344,0xd6d6a3e8,0xcb61b38c,0x9b64c2b0,0x86d3d2d4,0xa00ae278,0xbdbdf21c]
theorem cstep4 (s:Nat):zbH 4 s=s/16 ^^^ ctab.getD (s%16) 0:=by
 have h:=xor_split 4 s
 have e:zbH 4 s=zbH 4 (s%2 ^ 4) ^^^ zbH 4 (2 ^ 4*(s/2 ^ 4)):=by
  conv=>lhs;rw [h]
  rw [cstepN_xor]
 rw [e,cstepN_shift,Nat.xor_comm]
 have hlt:s%16<16:=Nat.mod_lt _ (by decide)
 have key:∀k,k<16→zbH 4 k=ctab.getD k 0:=by decide
 show s/16 ^^^ zbH 4 (s%16)=_
 rw [key _ hlt]
def cbyte (s:Nat) (c:UInt8):Nat:=zbH 8 (s ^^^ c.toNat)
def creg (s:Nat) (l:List UInt8):Nat:=l.foldl cbyte s
def csum (l:List UInt8):Nat:=creg 4294967295 l ^^^ 4294967295
theorem u8_lt32 (c:UInt8):c.toNat<4294967296:=by have:=c.toNat_lt;omega
theorem cbyte_lt {s:Nat}(h:s<4294967296) (c:UInt8):cbyte s c<4294967296:=cstepN_lt 8 (Nat.xor_lt_two_pow (n:=32) h (u8_lt32 c))
theorem creg_lt {s:Nat}(h:s<4294967296) (l:List UInt8):creg s l<4294967296:=by
 induction l generalizing s with
 | nil=>exact h
 | cons c l ih=>exact ih (cbyte_lt h c)
theorem csum_lt (l:List UInt8):csum l<4294967296:=Nat.xor_lt_two_pow (n:=32) (creg_lt (by decide) l) (by decide)
theorem creg_append (s:Nat) (a b:List UInt8):creg s (a++b)=creg (creg s a) b:=by simp [creg]
def window (b p m n:Nat):List Bool:=List.replicate p false++((List.range m).map fun i=>b.testBit i)++List.replicate (n-p-m) false
def le4 (u:Nat):List UInt8:=[UInt8.ofNat (u%256),UInt8.ofNat (u/256%256),UInt8.ofNat (u/65536%256),UInt8.ofNat (u/16777216%256)]
def leN:List UInt8→Nat
 | []=>0
 | c::l=>c.toNat+256*leN l
theorem leN_le4 {u:Nat}(h:u<4294967296):leN (le4 u)=u:=by
 simp only [leN,le4,UInt8.toNat_ofNat']
 omega
theorem leN_lt:∀(l:List UInt8),leN l<256 ^ l.length
 | []=>by simp [leN]
 | c::l=>by
  have:=leN_lt l
  have h2:=c.toNat_lt
  rw [leN,List.length_cons,Nat.pow_succ];omega
end
section
open Go.RowKit Go.Sort Go.Lib
def zints (l:List Int):List Value:=l.map (Value.int .i64)
theorem zcZ {w:World}{a:Option Addr}{n c:Nat}{l:List Int}(h:Src w 1 (.slice a n c) n (zints l)) {k:Nat}(hk:k<n) :
 ∃b off z,a=some ⟨b,off,none⟩∧l[k]?=some z∧w.cell? ⟨b,off+k,none⟩=some (.int .i64 z):=by
 rcases h with ⟨_,h,_⟩|⟨ad,c',h,hl,h2,_⟩
 ·omega
 ·simp at h
  obtain ⟨rfl,rfl⟩:=h
  have hl':l.length=n:=by simpa [zints] using hl
  have hkl:k<l.length:=by omega
  have hcell:=h2 k (.int .i64 l[k]) (by simp [zints,yac hkl])
  have hcell0:=h2 0 (.int .i64 (l[0]'(by omega))) (by simp [zints,yac (show 0<l.length by omega)])
  obtain ⟨b,off,spot⟩:=ad
  have hspot:spot=none:=by simpa [Addr.add] using World.cell?_spot hcell0
  subst hspot
  refine ⟨b,off,l[k],rfl,yac hkl,?_⟩
  rw [←yak];exact hcell
theorem zdJ {w:World}{v:Value}{n:Nat}{l:List Int}(h:Src w 1 v n (zints l)):l.length=n:=by
 rcases h with ⟨_,h,h2⟩|⟨_,_,_,h,_⟩
 ·have:(zints l).length=0:=by rw [h2];rfl
  simp [zints] at this;simp [this,h]
 ·simpa [zints] using h
end
section
open Go Go.RowKit Go.Sort Go.Lib
variable {P:Program}
theorem copy_any {w:World}{dT e t:TypeId}{g n c:Nat}{xs news:List Value}{sv:Value}(ty:TypeId) (hu:P.underlying dT=some (.slice e)) (hs:(P.info? e).map (·.size)=some 1)
 (hrow:Row w t 1 (.slice (some ⟨g,0,none⟩) n c) n xs) (hsrc:Src w 1 sv n news) (h1:∀u∈news,u.oneCell'=true) :
 ∃w',(Builtin.copy_ #[dT,dT] ty #[.slice (some ⟨g,0,none⟩) n c,sv]).run P w=.ok (goInt n) w'∧Row w' t 1 (.slice (some ⟨g,0,none⟩) n c) n news∧Chg (·=g) w w':=by
 obtain ⟨hl0,⟨e',_⟩|⟨g',cap,cur,e',hb0,hb,k1,k2,k3,k4⟩⟩:=hrow
 ·cases e'
 simp only [Value.slice.injEq,Option.some.injEq,Addr.mk.injEq,and_true,true_and] at e'
 obtain ⟨rfl,rfl⟩:=e'
 rcases hsrc with ⟨rfl,rfl,rfl⟩|⟨a,c2,rfl,hl,hc,hcells⟩
 ·refine ⟨w,?_,⟨rfl,.inr ⟨g,c,cur,rfl,hb0,hb,k1,k2,k3,by simp⟩⟩,Chg.refl _ _⟩
  have:=run_copy_nil (P:=P) w dT dT ty e ⟨g,0,none⟩ 0 c hu (by cases hq:P.info? e with|none=>simp [hq] at hs|some i=>simp [hq])
  exact this
 ·have hl':news.length=n:=by simpa using hl
  have hcur:cur.size=c:=by simpa using k3
  have h:=run_copy_row (P:=P) w dT dT ty e g 0 n c a n c2 cur t news hu hs hb (by rw [hl'];exact (Nat.min_self n).symm) (fun j v hj=>hc j v hj) (by omega) h1
  rw [hl'] at h
  refine ⟨_,h,⟨by simpa using hl,.inr ⟨g,c,_,rfl,hb0,setRow_heap w g cur _ t (0,0) hb,k1,k2,?_,?_⟩⟩,⟨rfl,rfl,rfl,by simp [World.setRow],fun k _ hn=>setRow_other w g k _ hn⟩⟩
  ·simp
   omega
  ·simp
   rw [List.take_append_of_le_length (by omega),yai (by omega)]
theorem wpList_copy_run {w:World}{ops:Array Oper}{rest:List Oper}{o:Oper}{a:Act}{Q:Exit→Act→World→Prop}(hgd:o.guard=none) (s x:Operand) (t:TypeId)
 (ho:o.op=.call { callee:=.builtin .copy,args:=#[s,x],argTypes:=#[t,t] }) (v sv v':Value) (w':World) (hs:a.eval s=v) (hx:a.eval x=sv)
 (hr:(Builtin.copy_ #[t,t] o.type #[v,sv]).run P w=.ok v' w') (h:wpList P ops Q rest (a.put o.dst v') w') :
 wpList P ops Q (o::rest) a w:=by
 refine wpList_plain hgd fun K hK=>?_
 unfold Oper.wp execOp
 simp only [ho,resolve,invoke,builtin,Sem.run_bind,Sem.run_pure,Result.andThen_ok,List.map_toArray,yaJ,List.map_nil,hs,hx,hr]
 exact hK _ _ h
end
section
open Go.RowKit Go.Sort Go.Lib
theorem zbU {T:Nat→Prop}{w w':World}{g:Option Addr}{n c:Nat}{l:List UInt8}(h:Src w 1 (.slice g n c) n (u8s l)) (hc:Chg T w w') (hn:∀b,g.map (·.block)=some b→¬T b):Src w' 1 (.slice g n c) n (u8s l):=by
 rcases h with h|⟨ad,c',e,hl,hs,h1⟩
 ·exact .inl h
 ·refine .inr ⟨ad,c',e,hl,fun j u hj=>?_,h1⟩
  have h0:=hs j u hj
  cases e
  have hb:(ad.add j).block=ad.block:=by unfold Addr.add;split<;>rfl
  rw [hc.cell (by rw [hb];exact hb▸yaf w _ h0) (by rw [hb];exact hn _ rfl)]
  exact h0
theorem Ext.stored1 {w w1 w2:World}{b:Nat}(h:Ext w w1) (hc:Chg (·=b) w1 w2) (hb:w.heap.size≤b):Ext w w2:=((Chg.of_ext h).trans hc (fun _ _ e=>e)).ext (fun i hi e=>by omega)
end
end Go.Proofs.YtlmfhjipbjkcbaaGreatDoor
