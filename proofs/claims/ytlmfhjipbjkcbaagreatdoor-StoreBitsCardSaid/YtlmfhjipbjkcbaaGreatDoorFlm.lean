/- x -/
import Derived.Test.YtlmfhjipbjkcbaaGreatDoorMap
import Derived.Maps.AppendAt
import Derived.Laws.AppendOwnNone
set_option linter.unusedSimpArgs false
set_option linter.unusedVariables false
namespace Go.Proofs.YtlmfhjipbjkcbaaGreatDoor
section
open Go.RowKit Go.Sort
theorem Chg.of_grown {w w':World}{r:Option Nat}(h:w.grownBy w' r):Chg (fun k=>r=some k) w w' :=
 ⟨h.os,h.tape,h.output,h.size,fun k hk hn=>h.block k hk (fun e=>hn e.symm)⟩
theorem zab {w:World}{b:Nat}{o:Obj}(h:w.heap[b]?=some o):b<w.heap.size:=by
 rcases Nat.lt_or_ge b w.heap.size with h'|h'
 ·exact h'
 ·simp [Array.getElem?_eq_none h'] at h
theorem zaa {w:World}{b:Nat}{cs:Array Value}{t:TypeId}{fr:Nat×Nat}(h:w.heap[b]?=some (.cells cs t fr)) (i:Nat):w.cell? ⟨b,i,none⟩=cs[i]?:=by
 simp [World.cell?,h]
theorem zao {w:World}{b:Nat}{cs:Array Value}{t:TypeId}(h:w.heap[b]?=some (.cells cs t (0,0))) (i:Nat):w.frozen? ⟨b,i,none⟩=false:=by
 simp [World.frozen?,h]
theorem zaq {w:World}{b i:Nat}{cs:Array Value}{t:TypeId}{fr:Nat×Nat}(h:w.heap[b]?=some (.cells cs t fr)) (u:Value):(w.setCell ⟨b,i,none⟩ u).heap[b]?=some (.cells (cs.setIfInBounds i u) t fr):=by
 simp [World.setCell,Array.getElem?_modify,h]
theorem zbd {w:World}{b c i:Nat}(h:c≠b) (u:Value):(w.setCell ⟨b,i,none⟩ u).heap[c]?=w.heap[c]?:=Below.heap_setCell _ _ _ _ h
theorem zal (w:World) (b i:Nat) (u:Value):Chg (·=b) w (w.setCell ⟨b,i,none⟩ u) :=
 Chg.setCell (S:=(·=b)) (Chg.refl _ w) (p:=⟨b,i,none⟩) (fun _=>rfl) u
theorem Ext.drewN (w:World) (k:Nat):Ext w (w.drewN k):=⟨rfl,rfl,rfl,Nat.le_refl _,fun _ _=>rfl⟩
def Row (w:World) (e:TypeId) (size:Nat) (v:Value) (n:Nat) (xs:List Value):Prop:=w.ownsRow 0 e size v n xs
theorem Row.nil (w:World) (e:TypeId) (size:Nat):Row w e size (.slice none 0 0) 0 []:=⟨by simp,.inl ⟨rfl,rfl⟩⟩
theorem Row.len {w:World}{e:TypeId}{size:Nat}{v:Value}{n:Nat}{xs:List Value}(h:Row w e size v n xs):xs.length=n*size:=h.1
theorem Row.lt {w:World}{e:TypeId}{size:Nat}{v:Value}{n:Nat}{xs:List Value}(h:Row w e size v n xs) {g:Nat}(hg:v.ownBlock=some g):g<w.heap.size:=by
 obtain ⟨_,h|⟨g',cap,cur,rfl,_,hb,_⟩⟩:=h
 ·rw [h.1] at hg;simp [Value.ownBlock] at hg
 ·simp [Value.ownBlock] at hg;subst hg
  rcases Nat.lt_or_ge g' w.heap.size with h|h
  ·exact h
  ·simp [Array.getElem?_eq_none h] at hb
theorem Row.chg {S:Nat→Prop}{w w':World}{e:TypeId}{size:Nat}{v:Value}{n:Nat}{xs:List Value}(h:Row w e size v n xs) (hc:Chg S w w') (hn:∀g,v.ownBlock=some g→¬S g):Row w' e size v n xs:=by
 have hlt:∀g,v.ownBlock=some g→g<w.heap.size:=fun g hg=>h.lt hg
 obtain ⟨h1,h2⟩:=h
 refine ⟨h1,?_⟩
 rcases h2 with h2|⟨g,cap,cur,hv,hg,hh,r⟩
 ·exact .inl h2
 ·refine .inr ⟨g,cap,cur,hv,hg,?_,r⟩
  have ho:v.ownBlock=some g:=by rw [hv];rfl
  rw [hc.block g (hlt g ho) (hn g ho)];exact hh
theorem Row.ext {w w':World}{e:TypeId}{size:Nat}{v:Value}{n:Nat}{xs:List Value}(h:Row w e size v n xs) (hc:Ext w w'):Row w' e size v n xs :=
 h.chg (Chg.of_ext (S:=fun _=>False) hc) (fun _ _=>id)
def Src (w:World) (size:Nat) (sv:Value) (m:Nat) (xs:List Value):Prop :=
 (sv=.slice none 0 0∧m=0∧xs=[]) ∨
 ∃(ad:Addr) (c:Nat),sv=.slice (some ad) m c∧xs.length=m*size∧(∀j u,xs[j]?=some u→w.cell? (ad.add j)=some u)∧∀u∈xs,u.oneCell'=true
theorem Row.src {w:World}{e:TypeId}{size:Nat}{v:Value}{n:Nat}{xs:List Value}(h:Row w e size v n xs) (h1:∀u∈xs,u.oneCell'=true):Src w size v n xs:=by
 obtain ⟨hl,⟨rfl,rfl⟩|⟨g,cap,cur,rfl,_,hb,_,_,hcs,rfl⟩⟩:=h
 ·left;simp at hl;exact ⟨rfl,rfl,hl⟩
 ·refine .inr ⟨_,_,rfl,hl,fun j u hj=>?_,h1⟩
  have hj':j<n*size:=by
   rcases Nat.lt_or_ge j (n*size) with h|h
   ·exact h
   ·simp [yaO,Nat.not_lt.2 h] at hj
  rw [yaO,if_pos hj'] at hj
  have:(⟨g,0,none⟩:Addr).add j=⟨g,j,none⟩:=by unfold Addr.add;split<;>simp_all
  rw [this]
  simp only [World.cell?,hb]
  simpa using hj
theorem Src.chg {S:Nat→Prop}{w w':World}{size:Nat}{v:Value}{n:Nat}{xs:List Value}(h:Src w size v n xs) (hc:Chg S w w') (hn:∀g,v.ownBlock=some g→¬S g):Src w' size v n xs:=by
 rcases h with h|⟨ad,c,rfl,h2,h3,h4⟩
 ·exact .inl h
 ·refine .inr ⟨ad,c,rfl,h2,fun j u hj=>?_,h4⟩
  have hcell:=h3 j u hj
  have hlt:=World.block_lt_of_cell? w _ hcell
  have hb:(ad.add j).block=ad.block:=by unfold Addr.add;split<;>rfl
  rw [hc.cell hlt (by rw [hb];exact hn _ rfl)];exact hcell
theorem Src.ext {w w':World}{size:Nat}{v:Value}{n:Nat}{xs:List Value}(h:Src w size v n xs) (hc:Ext w w'):Src w' size v n xs :=
 h.chg (Chg.of_ext (S:=fun _=>False) hc) (fun _ _=>id)
theorem Row.shape {w:World}{e:TypeId}{size:Nat}{v:Value}{n:Nat}{xs:List Value}(h:Row w e size v n xs):∃a c,v=.slice a n c:=by
 obtain ⟨_,⟨rfl,rfl⟩|⟨g,cap,cur,rfl,_⟩⟩:=h
 ·exact ⟨_,_,rfl⟩
 ·exact ⟨_,_,rfl⟩
theorem zdL {P:Program}(w:World) (t ty e:TypeId) (i:TypeInfo) (z:Value) (size bytes:Nat) (ht:P.underlying t=some (.slice e)) (hi:P.info? e=some i) (hz:i.zero=some z)
 (hsize:i.size=size) (hby:i.bytes=bytes) (hzs:z.cells.size=size) (hsz:0<size)
 {v:Value}{n:Nat}{xs:List Value}(hown:Row w e size v n xs) {sv:Value}{m:Nat}{news:List Value}(hs:Src w size sv m news)
 (h63:n+m≤maxLen) (hbytes:(n+m)*bytes≤140737488355328) :
 ∃v' w',(Builtin.append_ #[t,t] ty #[v,sv]).run P w=.ok v' w'∧Row w' e size v' (n+m) (xs++news)∧Chg (fun k=>v.ownBlock=some k) w w' ∧
  (v'.ownBlock=v.ownBlock∨v'.ownBlock=some w.heap.size):=by
 rcases hs with ⟨rfl,rfl,rfl⟩|⟨ad,c,rfl,hl,hnews,h1⟩
 ·refine ⟨v,w,?_,by simpa using hown,Chg.refl _ _,.inl rfl⟩
  obtain ⟨_,⟨rfl,rfl⟩|⟨g,cap,cur,rfl,_,hb,hle,_⟩⟩:=hown
  ·simp [Builtin.append_,run_underlying ht,sizeOf,typeInfo,hi,Builtin.lenOf,Builtin.firstCells,Result.andThen]
  ·simp [Builtin.append_,run_underlying ht,sizeOf,typeInfo,hi,Builtin.lenOf,Builtin.firstCells,Result.andThen,hle,storeCells]
 ·obtain ⟨v',w',hr,h2,h3,_,h5⟩:=run_append_own_at (P:=P) w 0 t ty e i z size bytes ht hi hz hsize hby hzs hsz v n xs hown ad m c news hl hnews h1 h63 hbytes (Nat.zero_le _)
  exact ⟨v',w',hr,h2,Chg.of_grown h3,h5⟩
section
variable {P:Program} {w:World} {ops:Array Oper} {rest:List Oper} {o:Oper} {a:Act} {Q:Exit→Act→World→Prop}
theorem zbn (hgd:o.guard=none) (s x:Operand) (t:TypeId)
 (ho:o.op=.call { callee:=.builtin .append,args:=#[s,x],argTypes:=#[t,t] }) (v sv v':Value) (w':World) (hs:a.eval s=v) (hx:a.eval x=sv)
 (hr:(Builtin.append_ #[t,t] o.type #[v,sv]).run P w=.ok v' w') (h:wpList P ops Q rest (a.put o.dst v') w') :
 wpList P ops Q (o::rest) a w:=by
 refine wpList_plain hgd fun K hK=>?_
 unfold Oper.wp execOp
 simp only [ho,resolve,invoke,builtin,Sem.run_bind,Sem.run_pure,Result.andThen_ok,List.map_toArray,yaF,List.map_nil,hs,hx,hr]
 exact hK _ _ h
end
end
section
open Go.RowKit Go.Sort Go.Lib
def u8s (l:List UInt8):List Value:=l.map fun c=>.int .u8 (c.toNat:Int)
theorem zaN (l:List UInt8):(u8s l).length=l.length:=by simp [u8s]
theorem zbA (l k:List UInt8):u8s (l++k)=u8s l++u8s k:=by simp [u8s]
theorem zaC (l:List UInt8):∀u∈u8s l,u.oneCell'=true:=by
 intro u hu
 obtain ⟨c,_,rfl⟩:=yan.1 hu
 rfl
theorem zec {w:World}{a:Option Addr}{n c:Nat}{l:List UInt8}(h:Src w 1 (.slice a n c) n (u8s l)) {k:Nat}(hk:k<n) :
 ∃b off x,a=some ⟨b,off,none⟩∧l[k]?=some x∧w.cell? ⟨b,off+k,none⟩=some (.int .u8 (x.toNat:Int)):=by
 rcases h with ⟨_,h,_⟩|⟨ad,c',h,hl,h2,_⟩
 ·omega
 ·simp at h
  obtain ⟨rfl,rfl⟩:=h
  have hl':l.length=n:=by simpa [u8s] using hl
  have hkl:k<l.length:=by omega
  have key:∀(k:Nat) (hkl:k<l.length),w.cell? (ad.add k)=some (.int .u8 (l[k].toNat:Int)):=fun k hkl=>h2 k _ (by simp [u8s,yac hkl])
  obtain ⟨b,off,spot⟩:=ad
  have hz:=key 0 (by omega)
  have hspot:spot=none:=by simpa [Addr.add] using World.cell?_spot hz
  subst hspot
  refine ⟨b,off,l[k],rfl,yac hkl,?_⟩
  rw [←Go.WideShapes.add_plain];exact key k hkl
theorem zax {w:World}{v:Value}{n:Nat}{l:List UInt8}(h:Src w 1 v n (u8s l)):l.length=n:=by
 rcases h with ⟨_,rfl,h⟩|⟨_,_,_,h,_⟩
 ·cases l with
  | nil=>rfl
  | cons c l=>simp [u8s] at h
 ·simpa [u8s] using h
def bitN (b i:Nat):Nat:=b/2 ^ i%2
theorem bitN_lt (b i:Nat):bitN b i<2:=Nat.mod_lt _ (by decide)
def flipB (b p i:Nat) (x:UInt8):UInt8:=x ^^^ UInt8.ofNat (bitN b i*2 ^ ((p+i)%8))
def zci (b p:Nat) (bs:List UInt8) (i:Nat):List UInt8:=bs.set ((p+i)/8) (flipB b p i (bs.getD ((p+i)/8) 0))
def zbT (b p:Nat) (bs:List UInt8):Nat→List UInt8
 | 0=>bs
 | i+1=>zci b p (zbT b p bs i) i
def flipL (b p:Nat) (bs:List UInt8):List UInt8:=zbT b p bs (min 32 (8*bs.length-p))
theorem flipStep_len (b p:Nat) (bs:List UInt8) (i:Nat):(zci b p bs i).length=bs.length:=by simp [zci]
theorem zcx (b p:Nat) (bs:List UInt8):∀i,(zbT b p bs i).length=bs.length
 | 0=>rfl
 | i+1=>by rw [zbT,flipStep_len,zcx b p bs i]
theorem flipL_len (b p:Nat) (bs:List UInt8):(flipL b p bs).length=bs.length:=zcx _ _ _ _
theorem zcU {b p:Nat}{bs:List UInt8}{i:Nat}(h:bitN b i=0):zci b p bs i=bs:=by
 unfold zci flipB
 rw [h,Nat.zero_mul]
 have:∀x:UInt8,x ^^^ UInt8.ofNat 0=x:=fun x=>by simp
 rw [this]
 by_cases hl:(p+i)/8<bs.length
 ·rw [yaq,yac hl,Option.getD_some,List.set_getElem_self]
 ·rw [List.set_eq_of_length_le (by omega)]
theorem u32_bit (b i:Nat) (h:b<4294967296):bits .and .u32 ((b:Int)/2 ^ i) 1=(bitN b i:Nat):=by
 have e:(b:Int)/2 ^ i=((b/2 ^ i:Nat):Int):=by push_cast;rfl
 have hlt:b/2 ^ i<4294967296:=Nat.lt_of_le_of_lt (Nat.div_le_self _ _) h
 rw [e]
 have h1:(BitVec.ofInt 32 1).toNat=2 ^ 1-1:=by decide
 show IntKind.u32.wrap ((BitVec.ofInt 32 ((b/2 ^ i:Nat):Int) &&& BitVec.ofInt 32 1).toNat:Nat)=_
 rw [BitVec.toNat_and,h1,Nat.and_two_pow_sub_one_eq_mod,BitVec.toNat_ofInt,IntKind.wrap_u32]
 unfold bitN
 omega
theorem u8_xor (a c:Nat) (ha:a<256) (hc:c<256):bits .xor .u8 (a:Int) (c:Int)=((a ^^^ c:Nat):Int):=by
 show IntKind.u8.wrap ((BitVec.ofInt 8 (a:Int) ^^^ BitVec.ofInt 8 (c:Int)).toNat:Nat)=_
 rw [BitVec.toNat_xor,BitVec.toNat_ofInt,BitVec.toNat_ofInt]
 have e1:((a:Int)%((2 ^ 8:Nat):Int)).toNat=a:=by omega
 have e2:((c:Int)%((2 ^ 8:Nat):Int)).toNat=c:=by omega
 rw [e1,e2,IntKind.wrap_u8]
 have:a ^^^ c<2 ^ 8:=Nat.xor_lt_two_pow (by omega) (by omega)
 omega
theorem flipB_toNat (b p i:Nat) (x:UInt8):(flipB b p i x).toNat=x.toNat ^^^ (bitN b i*2 ^ ((p+i)%8)):=by
 unfold flipB
 rw [UInt8.toNat_xor,UInt8.toNat_ofNat']
 have h1:=bitN_lt b i
 have h2:(p+i)%8<8:=Nat.mod_lt _ (by decide)
 have h3:2 ^ ((p+i)%8)<256:=by
  have:=Nat.pow_lt_pow_right (a:=2) (by decide) h2
  omega
 congr 1
 apply Nat.mod_eq_of_lt
 have:bitN b i=0∨bitN b i=1:=by omega
 rcases this with e|e<;>rw [e]<;>omega
theorem pow8_lt (n:Nat):2 ^ (n%8)<256:=by
 have:=Nat.pow_lt_pow_right (a:=2) (by decide) (Nat.mod_lt n (show 8 > 0 by decide))
 omega
end
section
def cstep (s:Nat):Nat:=s/2 ^^^ (s%2)*3988292384
theorem cstep_eq (s:Nat):cstep s=if s%2=1 then s/2 ^^^ 3988292384 else s/2:=by
 unfold cstep
 have:s%2=0∨s%2=1:=by omega
 rcases this with h|h<;>simp [h]
theorem mod_two_xor (a b:Nat):(a ^^^ b)%2=(a%2+b%2)%2:=by
 have h:=Nat.xor_mod_two_pow (a:=a) (b:=b) (n:=1)
 simp only [Nat.pow_one] at h
 rw [h]
 have ha:a%2=0∨a%2=1:=by omega
 have hb:b%2=0∨b%2=1:=by omega
 rcases ha with ha|ha<;>rcases hb with hb|hb<;>rw [ha,hb]<;>rfl
theorem cstep_xor (a b:Nat):cstep (a ^^^ b)=cstep a ^^^ cstep b:=by
 unfold cstep
 have h1:(a ^^^ b)/2=a/2 ^^^ b/2:=by
  have:=Nat.shiftRight_xor_distrib (a:=a) (b:=b) (i:=1)
  simpa [Nat.shiftRight_eq_div_pow] using this
 rw [h1,mod_two_xor]
 have ha:a%2=0∨a%2=1:=by omega
 have hb:b%2=0∨b%2=1:=by omega
 generalize a/2=x
 generalize b/2=y
 rcases ha with ha|ha<;>rcases hb with hb|hb<;>simp only [ha,hb,Nat.zero_mul,Nat.one_mul,Nat.xor_zero,Nat.zero_mod,Nat.add_zero,Nat.zero_add]
 ·rw [Nat.xor_assoc]
 ·rw [Nat.xor_assoc,Nat.xor_comm y,←Nat.xor_assoc,Nat.xor_assoc]
 ·have e:x ^^^ 3988292384 ^^^ (y ^^^ 3988292384)=x ^^^ y ^^^ (3988292384 ^^^ 3988292384):=by
   rw [Nat.xor_assoc,←Nat.xor_assoc 3988292384 y,Nat.xor_comm 3988292384 y,Nat.xor_assoc y,←Nat.xor_assoc]
  rw [e];simp
theorem cstep_lt {s:Nat}(h:s<4294967296):cstep s<4294967296:=by
 unfold cstep
 refine Nat.xor_lt_two_pow (n:=32) (by omega) ?_
 have:s%2=0∨s%2=1:=by omega
 rcases this with h|h<;>rw [h]<;>decide
theorem cstep_zero:cstep 0=0:=rfl
theorem cstep_ne {s:Nat}(h:s<4294967296) (h0:s≠0):cstep s≠0:=by
 rw [cstep_eq]
 split
 ·intro e
  have e2:s/2=3988292384:=by
   have:=congrArg (·^^^ 3988292384) e
   simpa [Nat.xor_assoc] using this
  omega
 ·omega
theorem cstep_double (v:Nat):cstep (2*v)=v:=by
 unfold cstep
 have h1:2*v%2=0:=by omega
 have h2:2*v/2=v:=by omega
 rw [h1,h2];simp
def zaT:Nat→Nat→Nat
 | 0,s=>s
 | n+1,s=>zaT n (cstep s)
theorem cstepN_xor (n a b:Nat):zaT n (a ^^^ b)=zaT n a ^^^ zaT n b:=by
 induction n generalizing a b with
 | zero=>rfl
 | succ n ih=>simp only [zaT,cstep_xor,ih]
theorem cstepN_lt (n:Nat) {s:Nat}(h:s<4294967296):zaT n s<4294967296:=by
 induction n generalizing s with
 | zero=>exact h
 | succ n ih=>exact ih (cstep_lt h)
theorem cstepN_ne (n:Nat) {s:Nat}(h:s<4294967296) (h0:s≠0):zaT n s≠0:=by
 induction n generalizing s with
 | zero=>exact h0
 | succ n ih=>exact ih (cstep_lt h) (cstep_ne h h0)
theorem cstepN_zero (n:Nat):zaT n 0=0:=by
 induction n with
 | zero=>rfl
 | succ n ih=>rw [zaT,cstep_zero,ih]
theorem cstepN_add (m n s:Nat):zaT (m+n) s=zaT n (zaT m s):=by
 induction m generalizing s with
 | zero=>simp [zaT]
 | succ m ih=>rw [show m+1+n=(m+n)+1 by omega,zaT,ih];rfl
theorem cstepN_shift (n v:Nat):zaT n (2 ^ n*v)=v:=by
 induction n generalizing v with
 | zero=>simp [zaT]
 | succ n ih =>
  rw [zaT,show 2 ^ (n+1)*v=2*(2 ^ n*v) by rw [Nat.pow_succ];rw [Nat.mul_comm (2 ^ n) 2,Nat.mul_assoc],cstep_double,ih]
theorem xor_split (n s:Nat):s=(s%2 ^ n) ^^^ (2 ^ n*(s/2 ^ n)):=by
 apply Nat.eq_of_testBit_eq
 intro i
 rw [Nat.testBit_xor,Nat.testBit_mod_two_pow,Nat.testBit_two_pow_mul]
 by_cases h:i<n
 ·have:¬n≤i:=by omega
  simp [h,this]
 ·have h2:n≤i:=by omega
  simp [h,h2,Nat.testBit_div_two_pow]
def ctab:List Nat:=[0x00000000,0x1db71064,0x3b6e20c8,0x26d930ac,0x76dc4190,0x6b6b51f4,0x4db26158,0x5005713c,0xedb88320,0xf00f9344,0xd6d6a3e8,0xcb61b38c,0x9b64c2b0,0x86d3d2d4,0xa00ae278,0xbdbdf21c]
theorem cstep4 (s:Nat):zaT 4 s=s/16 ^^^ ctab.getD (s%16) 0:=by
 have h:=xor_split 4 s
 have e:zaT 4 s=zaT 4 (s%2 ^ 4) ^^^ zaT 4 (2 ^ 4*(s/2 ^ 4)):=by
  conv=>lhs;rw [h]
  rw [cstepN_xor]
 rw [e,cstepN_shift,Nat.xor_comm]
 have hlt:s%16<16:=Nat.mod_lt _ (by decide)
 have key:∀k,k<16→zaT 4 k=ctab.getD k 0:=by decide
 show s/16 ^^^ zaT 4 (s%16)=_
 rw [key _ hlt]
def cbyte (s:Nat) (c:UInt8):Nat:=zaT 8 (s ^^^ c.toNat)
def creg (s:Nat) (l:List UInt8):Nat:=l.foldl cbyte s
def csum (l:List UInt8):Nat:=creg 4294967295 l ^^^ 4294967295
theorem u8_lt32 (c:UInt8):c.toNat<4294967296:=by have:=c.toNat_lt;omega
theorem cbyte_lt {s:Nat}(h:s<4294967296) (c:UInt8):cbyte s c<4294967296:=cstepN_lt 8 (Nat.xor_lt_two_pow (n:=32) h (u8_lt32 c))
theorem creg_lt {s:Nat}(h:s<4294967296) (l:List UInt8):creg s l<4294967296:=by
 induction l generalizing s with
 | nil=>exact h
 | cons c l ih=>exact ih (cbyte_lt h c)
theorem csum_lt (l:List UInt8):csum l<4294967296:=Nat.xor_lt_two_pow (n:=32) (creg_lt (by decide) l) (by decide)
theorem creg_append (s:Nat) (a b:List UInt8):creg s (a++b)=creg (creg s a) b:=by simp [creg]
def cfeed (s:Nat) (l:List Bool):Nat:=l.foldl (fun s x=>cstep (s ^^^ x.toNat)) s
def bits8 (c:UInt8):List Bool:=(List.range 8).map fun i=>c.toNat.testBit i
def bitsL (l:List UInt8):List Bool:=l.flatMap bits8
theorem cfeed_append (s:Nat) (a b:List Bool):cfeed s (a++b)=cfeed (cfeed s a) b:=by simp [cfeed]
theorem cfeed_word (n:Nat):∀(s v:Nat),v<2 ^ n→cfeed s ((List.range n).map fun i=>v.testBit i)=zaT n (s ^^^ v):=by
 induction n with
 | zero=>intro s v hv;simp at hv;subst hv;simp [cfeed,zaT]
 | succ n ih =>
  intro s v hv
  have hlt:v/2<2 ^ n:=by rw [Nat.pow_succ] at hv;omega
  rw [List.range_succ_eq_map,yaF,List.map_map]
  have e1:((fun i=>v.testBit i) ∘ Nat.succ)=fun i=>(v/2).testBit i:=by
   funext i
   simp [Nat.testBit_succ]
  rw [e1]
  show cfeed (cstep (s ^^^ (v.testBit 0).toNat)) _=_
  rw [ih _ _ hlt,zaT]
  congr 1
  have e2:v=(v.testBit 0).toNat ^^^ (2*(v/2)):=by
   have:=xor_split 1 v
   simp only [Nat.pow_one] at this
   conv=>lhs;rw [this]
   congr 1
   rw [Nat.testBit_zero]
   have:v%2=0∨v%2=1:=by omega
   rcases this with h|h<;>simp [h]
  conv=>rhs;rw [e2,←Nat.xor_assoc,cstep_xor,cstep_double]
theorem cbyte_feed (s:Nat) (c:UInt8):cbyte s c=cfeed s (bits8 c):=by
 unfold cbyte bits8
 rw [cfeed_word 8 s c.toNat (by have:=c.toNat_lt;omega)]
theorem creg_feed (s:Nat) (l:List UInt8):creg s l=cfeed s (bitsL l):=by
 induction l generalizing s with
 | nil=>rfl
 | cons c l ih =>
  show creg (cbyte s c) l=_
  have e:bitsL (c::l)=bits8 c++bitsL l:=by simp [bitsL]
  rw [ih,e,cfeed_append,cbyte_feed]
theorem cfeed_zip (a b:Nat) (xs ys:List Bool) (h:xs.length=ys.length):cfeed (a ^^^ b) (List.zipWith (·^^ ·) xs ys)=cfeed a xs ^^^ cfeed b ys:=by
 induction xs generalizing a b ys with
 | nil=>cases ys with
  | nil=>rfl
  | cons y ys=>simp at h
 | cons x xs ih=>cases ys with
  | nil=>simp at h
  | cons y ys =>
   show cfeed (cstep (a ^^^ b ^^^ (x ^^ y).toNat)) (List.zipWith (·^^ ·) xs ys)=cfeed (cstep (a ^^^ x.toNat)) xs ^^^ cfeed (cstep (b ^^^ y.toNat)) ys
   have e:(x ^^ y).toNat=x.toNat ^^^ y.toNat:=by cases x<;>cases y<;>rfl
   have e2:a ^^^ b ^^^ (x ^^ y).toNat=(a ^^^ x.toNat) ^^^ (b ^^^ y.toNat):=by
    rw [e,Nat.xor_assoc,←Nat.xor_assoc b,Nat.xor_comm b,Nat.xor_assoc x.toNat,←Nat.xor_assoc a]
   rw [e2,cstep_xor,ih _ _ _ (by simpa using h)]
theorem cfeed_false (n:Nat) (s:Nat):cfeed s (List.replicate n false)=zaT n s:=by
 induction n generalizing s with
 | zero=>rfl
 | succ n ih =>
  rw [List.replicate_succ]
  show cfeed (cstep (s ^^^ 0)) (List.replicate n false)=_
  rw [Nat.xor_zero,ih,zaT]
theorem burst_ne (m p q:Nat) (b:Nat) (hm:m≤32) (hb:∃i,i<m∧b.testBit i=true) :
 cfeed 0 (List.replicate p false++((List.range m).map fun i=>b.testBit i)++List.replicate q false)≠0:=by
 rw [cfeed_append,cfeed_append,cfeed_false q,cfeed_false p,cstepN_zero]
 have e:((List.range m).map fun i=>b.testBit i)=(List.range m).map fun i=>(b%2 ^ m).testBit i:=by
  apply List.map_congr_left
  intro i hi
  rw [List.mem_range] at hi
  rw [Nat.testBit_mod_two_pow];simp [hi]
 have hlt:b%2 ^ m<2 ^ m:=Nat.mod_lt _ (Nat.two_pow_pos m)
 have hlt32:b%2 ^ m<4294967296:=yal hlt (yaL (by decide) hm)
 rw [e,cfeed_word m 0 _ hlt,Nat.zero_xor]
 have hne:b%2 ^ m≠0:=by
  intro h0
  obtain ⟨i,hi,hbi⟩:=hb
  have:=Nat.testBit_mod_two_pow b m i
  rw [h0] at this
  simp [hi,hbi] at this
 exact cstepN_ne q (cstepN_lt m hlt32) (cstepN_ne m hlt32 hne)
theorem bits8_len (c:UInt8):(bits8 c).length=8:=by simp [bits8]
theorem bitsL_len (l:List UInt8):(bitsL l).length=8*l.length:=by
 induction l with
 | nil=>rfl
 | cons c l ih =>
  have e:bitsL (c::l)=bits8 c++bitsL l:=by simp [bitsL]
  rw [e,yae,ih,bits8_len,List.length_cons];omega
theorem bits8_get (c:UInt8) (i:Nat) (h:i<8):(bits8 c)[i]?=some (c.toNat.testBit i):=by
 unfold bits8
 rw [yap,List.getElem?_range h];rfl
theorem bitsL_get (l:List UInt8) (i:Nat) (h:i<8*l.length):(bitsL l)[i]?=some ((l.getD (i/8) 0).toNat.testBit (i%8)):=by
 induction l generalizing i with
 | nil=>simp at h
 | cons c l ih =>
  have e:bitsL (c::l)=bits8 c++bitsL l:=by simp [bitsL]
  rw [e]
  by_cases h8:i<8
  ·rw [yaI (by rw [bits8_len];exact h8),bits8_get _ _ h8]
   have h1:i/8=0:=by omega
   have h2:i%8=i:=by omega
   rw [h1,h2];rfl
  ·rw [yax (by rw [bits8_len];omega),bits8_len,ih _ (by rw [List.length_cons] at h;omega)]
   have h1:i/8=(i-8)/8+1:=by omega
   have h2:i%8=(i-8)%8:=by omega
   rw [h1,h2];rfl
theorem zds (b i:Nat):bitN b i=(b.testBit i).toNat:=by
 unfold bitN
 rw [Nat.testBit_eq_decide_div_mod_eq]
 have:b/2 ^ i%2=0∨b/2 ^ i%2=1:=by omega
 rcases this with h|h<;>simp [h]
theorem flipStep_get (b p:Nat) (bs:List UInt8) (j i:Nat) (h:p+j<8*bs.length) (hi:i<8*bs.length) :
 ((zci b p bs j).getD (i/8) 0).toNat.testBit (i%8)=(((bs.getD (i/8) 0).toNat.testBit (i%8)) ^^ (decide (i=p+j)&&b.testBit j)):=by
 unfold zci
 have hl:(p+j)/8<bs.length:=by omega
 rw [yaq,List.getElem?_set]
 by_cases hq:(p+j)/8=i/8
 ·rw [if_pos hq,if_pos hl,Option.getD_some,flipB_toNat,zds,Nat.testBit_xor,hq]
  congr 1
  cases hb:b.testBit j with
  | false=>simp
  | true =>
   simp only [Bool.toNat_true,Nat.one_mul,Bool.and_true]
   rw [Nat.testBit_two_pow]
   have:((p+j)%8=i%8)↔(i=p+j):=by omega
   simp [this]
 ·rw [if_neg hq]
  have:i≠p+j:=by intro e;subst e;exact hq rfl
  simp [this,yaq]
theorem flipTo_get (b p:Nat) (bs:List UInt8):∀(m:Nat),p+m≤8*bs.length→∀i,i<8*bs.length →
 ((zbT b p bs m).getD (i/8) 0).toNat.testBit (i%8)=(((bs.getD (i/8) 0).toNat.testBit (i%8)) ^^ (decide (p≤i∧i<p+m)&&b.testBit (i-p)))
 | 0,_,i,_=>by
  have:¬(p≤i∧i<p+0):=by omega
  simp only [zbT,decide_eq_false this,Bool.false_and,Bool.xor_false]
 | m+1,h,i,hi=>by
  have ih:=flipTo_get b p bs m (by omega) i hi
  rw [zbT,flipStep_get b p _ m i (by rw [zcx];omega) (by rw [zcx];exact hi),ih,Bool.xor_assoc]
  congr 1
  by_cases e:i=p+m
  ·subst e
   have h1:¬(p≤p+m∧p+m<p+m):=by omega
   have h2:p≤p+m∧p+m<p+(m+1):=by omega
   simp
  ·have:(p≤i∧i<p+(m+1))↔(p≤i∧i<p+m):=by omega
   simp [e,this]
def window (b p m n:Nat):List Bool:=List.replicate p false++((List.range m).map fun i=>b.testBit i)++List.replicate (n-p-m) false
theorem window_get {b p m n i:Nat}(h:p+m≤n) (hi:i<n):(window b p m n)[i]?=some (decide (p≤i∧i<p+m)&&b.testBit (i-p)):=by
 unfold window
 by_cases h1:i<p
 ·rw [yai,yaI (by simpa using h1),List.getElem?_replicate,if_pos h1]
  have:¬(p≤i∧i<p+m):=by omega
  simp [this]
 ·by_cases h2:i<p+m
  ·rw [yai,yax (by simp;omega),List.length_replicate,yaI (by simp;omega),yap,List.getElem?_range (by omega)]
   have:p≤i∧i<p+m:=by omega
   simp [this]
  ·rw [yax (by simp;omega),List.getElem?_replicate,if_pos (by simp;omega)]
   have:¬(p≤i∧i<p+m):=by omega
   simp [this]
theorem flip_bits (b p m:Nat) (bs:List UInt8) (h:p+m≤8*bs.length):bitsL (zbT b p bs m)=List.zipWith (·^^ ·) (bitsL bs) (window b p m (8*bs.length)):=by
 have hwl:(window b p m (8*bs.length)).length=8*bs.length:=by simp [window];omega
 apply List.ext_getElem?
 intro i
 by_cases hi:i<8*bs.length
 ·rw [bitsL_get _ _ (by rw [zcx];exact hi),List.getElem?_zipWith,bitsL_get _ _ hi,window_get h hi,flipTo_get b p bs m h i hi]
 ·rw [List.getElem?_eq_none (by rw [bitsL_len,zcx];omega),List.getElem?_eq_none (by rw [List.length_zipWith,bitsL_len,hwl];omega)]
def turnsAny (b p n:Nat):Prop:=∃i,i<min 32 (n-p)∧b.testBit i=true
theorem flip_reg {b p:Nat}{bs:List UInt8}(s:Nat) (hp:p≤8*bs.length) (h:turnsAny b p (8*bs.length)):creg s (flipL b p bs)≠creg s bs:=by
 unfold flipL
 rw [creg_feed,creg_feed,flip_bits _ _ _ _ (by omega)]
 have hz:=cfeed_zip s 0 (bitsL bs) (window b p (min 32 (8*bs.length-p)) (8*bs.length)) (by rw [bitsL_len];simp [window];omega)
 rw [Nat.xor_zero] at hz
 rw [hz]
 have hn:=burst_ne (min 32 (8*bs.length-p)) p (8*bs.length-p-min 32 (8*bs.length-p)) b (Nat.min_le_left _ _) h
 intro e
 apply hn
 have:cfeed s (bitsL bs) ^^^ (cfeed s (bitsL bs) ^^^ cfeed 0 (window b p (min 32 (8*bs.length-p)) (8*bs.length)))=cfeed s (bitsL bs) ^^^ cfeed s (bitsL bs):=by rw [e]
 rw [←Nat.xor_assoc,Nat.xor_self,Nat.zero_xor] at this
 exact this
theorem flip_same {b p:Nat}{bs:List UInt8}(h:¬turnsAny b p (8*bs.length)):flipL b p bs=bs:=by
 unfold flipL
 have key:∀m,m≤min 32 (8*bs.length-p)→zbT b p bs m=bs:=by
  intro m
  induction m with
  | zero=>intro _;rfl
  | succ m ih =>
   intro hm
   rw [zbT,ih (by omega)]
   apply zcU
   rw [zds]
   cases hb:b.testBit m with
   | false=>rfl
   | true=>exact absurd ⟨m,by omega,hb⟩ h
 exact key _ (Nat.le_refl _)
def le4 (u:Nat):List UInt8:=[UInt8.ofNat (u%256),UInt8.ofNat (u/256%256),UInt8.ofNat (u/65536%256),UInt8.ofNat (u/16777216%256)]
def leN:List UInt8→Nat
 | []=>0
 | c::l=>c.toNat+256*leN l
theorem leN_le4 {u:Nat}(h:u<4294967296):leN (le4 u)=u:=by
 simp only [leN,le4,UInt8.toNat_ofNat']
 omega
theorem leN_lt:∀(l:List UInt8),leN l<256 ^ l.length
 | []=>by simp [leN]
 | c::l=>by
  have:=leN_lt l
  have h2:=c.toNat_lt
  rw [leN,List.length_cons,Nat.pow_succ];omega
theorem xor_disj (a b n:Nat) (h:a<2 ^ n):a+2 ^ n*b=a ^^^ (2 ^ n*b):=by
 have e:=xor_split n (a+2 ^ n*b)
 have h1:(a+2 ^ n*b)%2 ^ n=a:=by rw [Nat.add_mul_mod_self_left,Nat.mod_eq_of_lt h]
 have h2:(a+2 ^ n*b)/2 ^ n=b:=by
  rw [Nat.add_mul_div_left _ _ (Nat.two_pow_pos n),Nat.div_eq_of_lt h,Nat.zero_add]
 rw [h1,h2] at e
 exact e
theorem creg_le (s:Nat):∀(l:List UInt8),creg s l=zaT (8*l.length) (s ^^^ leN l)
 | []=>by simp [creg,leN,zaT]
 | c::l=>by
  show creg (cbyte s c) l=_
  rw [creg_le _ l,cbyte,List.length_cons,show 8*(l.length+1)=8+8*l.length by omega,cstepN_add,leN]
  congr 1
  have h2:=c.toNat_lt
  rw [show (256:Nat)=2 ^ 8 from rfl,xor_disj _ _ 8 h2,←Nat.xor_assoc,cstepN_xor 8 (s ^^^ c.toNat),cstepN_shift]
theorem cstepN_inj (n:Nat) {a b:Nat}(ha:a<4294967296) (hb:b<4294967296) (h:zaT n a=zaT n b):a=b:=by
 have hx:zaT n (a ^^^ b)=0:=by rw [cstepN_xor,h,Nat.xor_self]
 have:a ^^^ b=0:=by
  by_cases h0:a ^^^ b=0
  ·exact h0
  ·exact absurd hx (cstepN_ne n (Nat.xor_lt_two_pow (n:=32) ha hb) h0)
 have e:a ^^^ (a ^^^ b)=a:=by rw [this,Nat.xor_zero]
 rw [←Nat.xor_assoc,Nat.xor_self,Nat.zero_xor] at e
 exact e.symm
theorem sum_iff (l t:List UInt8) (ht:t.length=4):leN t=csum l↔creg 4294967295 (l++t)=zaT 32 4294967295:=by
 have hlt:leN t<4294967296:=by have:=leN_lt t;rw [ht] at this;exact this
 have hr:=creg_lt (s:=4294967295) (by decide) l
 rw [creg_append,creg_le,ht]
 constructor
 ·intro h
  rw [h,csum,←Nat.xor_assoc,Nat.xor_self,Nat.zero_xor]
 ·intro h
  have:=cstepN_inj 32 (Nat.xor_lt_two_pow (n:=32) hr hlt) (by decide) h
  unfold csum
  have e:=congrArg (creg 4294967295 l ^^^ ·) this
  rw [←Nat.xor_assoc,Nat.xor_self,Nat.zero_xor] at e
  exact e
theorem sum_turned {b p:Nat}{l t l' t':List UInt8}(ht:t.length=4) (ht':t'.length=4) (h:leN t=csum l) (hp:p≤8*(l++t).length) (hb:turnsAny b p (8*(l++t).length)) (hf:flipL b p (l++t)=l'++t'):leN t'≠csum l':=by
 intro h'
 rw [sum_iff _ _ ht] at h
 rw [sum_iff _ _ ht',←hf] at h'
 exact flip_reg 4294967295 hp hb (h'.trans h.symm)
end
section
open Go.RowKit Go.Sort Go.Lib
def zints (l:List Int):List Value:=l.map (Value.int .i64)
theorem zdx {w:World}{a:Option Addr}{n c:Nat}{l:List Int}(h:Src w 1 (.slice a n c) n (zints l)) {k:Nat}(hk:k<n) :
 ∃b off z,a=some ⟨b,off,none⟩∧l[k]?=some z∧w.cell? ⟨b,off+k,none⟩=some (.int .i64 z):=by
 rcases h with ⟨_,h,_⟩|⟨ad,c',h,hl,h2,_⟩
 ·omega
 ·simp at h
  obtain ⟨rfl,rfl⟩:=h
  have hl':l.length=n:=by simpa [zints] using hl
  have hkl:k<l.length:=by omega
  have hcell:=h2 k (.int .i64 l[k]) (by simp [zints,yac hkl])
  have hcell0:=h2 0 (.int .i64 (l[0]'(by omega))) (by simp [zints,yac (show 0<l.length by omega)])
  obtain ⟨b,off,spot⟩:=ad
  have hspot:spot=none:=by simpa [Addr.add] using World.cell?_spot hcell0
  subst hspot
  refine ⟨b,off,l[k],rfl,yac hkl,?_⟩
  rw [←Go.WideShapes.add_plain];exact hcell
theorem zints_src_len {w:World}{v:Value}{n:Nat}{l:List Int}(h:Src w 1 v n (zints l)):l.length=n:=by
 rcases h with ⟨_,h,h2⟩|⟨_,_,_,h,_⟩
 ·have:(zints l).length=0:=by rw [h2];rfl
  simp [zints] at this;simp [this,h]
 ·simpa [zints] using h
end
section
open Go Go.RowKit Go.Sort Go.Lib
variable {P:Program}
theorem copy_any {w:World}{dT e t:TypeId}{g n c:Nat}{xs news:List Value}{sv:Value}(ty:TypeId) (hu:P.underlying dT=some (.slice e)) (hs:(P.info? e).map (·.size)=some 1)
 (hrow:Row w t 1 (.slice (some ⟨g,0,none⟩) n c) n xs) (hsrc:Src w 1 sv n news) (h1:∀u∈news,u.oneCell'=true) :
 ∃w',(Builtin.copy_ #[dT,dT] ty #[.slice (some ⟨g,0,none⟩) n c,sv]).run P w=.ok (goInt n) w'∧Row w' t 1 (.slice (some ⟨g,0,none⟩) n c) n news∧Chg (·=g) w w':=by
 obtain ⟨hl0,⟨e',_⟩|⟨g',cap,cur,e',hb0,hb,k1,k2,k3,k4⟩⟩:=hrow
 ·cases e'
 simp only [Value.slice.injEq,Option.some.injEq,Addr.mk.injEq,and_true,true_and] at e'
 obtain ⟨rfl,rfl⟩:=e'
 rcases hsrc with ⟨rfl,rfl,rfl⟩|⟨a,c2,rfl,hl,hc,hcells⟩
 ·refine ⟨w,?_,⟨rfl,.inr ⟨g,c,cur,rfl,hb0,hb,k1,k2,k3,by simp⟩⟩,Chg.refl _ _⟩
  have:=run_copy_nil (P:=P) w dT dT ty e ⟨g,0,none⟩ 0 c hu (by cases hq:P.info? e with|none=>simp [hq] at hs|some i=>simp [hq])
  exact this
 ·have hl':news.length=n:=by simpa using hl
  have hcur:cur.size=c:=by simpa using k3
  have h:=run_copy_row (P:=P) w dT dT ty e g 0 n c a n c2 cur t news hu hs hb (by rw [hl'];exact (Nat.min_self n).symm) (fun j v hj=>hc j v hj) (by omega) h1
  rw [hl'] at h
  refine ⟨_,h,⟨by simpa using hl,.inr ⟨g,c,_,rfl,hb0,setRow_heap w g cur _ t (0,0) hb,k1,k2,?_,?_⟩⟩,⟨rfl,rfl,rfl,by simp [World.setRow],fun k _ hn=>setRow_other w g k _ hn⟩⟩
  ·simp
   omega
  ·simp
   rw [List.take_append_of_le_length (by omega),yah (by omega)]
theorem wpList_copy_run {w:World}{ops:Array Oper}{rest:List Oper}{o:Oper}{a:Act}{Q:Exit→Act→World→Prop}(hgd:o.guard=none) (s x:Operand) (t:TypeId)
 (ho:o.op=.call { callee:=.builtin .copy,args:=#[s,x],argTypes:=#[t,t] }) (v sv v':Value) (w':World) (hs:a.eval s=v) (hx:a.eval x=sv)
 (hr:(Builtin.copy_ #[t,t] o.type #[v,sv]).run P w=.ok v' w') (h:wpList P ops Q rest (a.put o.dst v') w') :
 wpList P ops Q (o::rest) a w:=by
 refine wpList_plain hgd fun K hK=>?_
 unfold Oper.wp execOp
 simp only [ho,resolve,invoke,builtin,Sem.run_bind,Sem.run_pure,Result.andThen_ok,List.map_toArray,yaF,List.map_nil,hs,hx,hr]
 exact hK _ _ h
end
section
open Go.RowKit Go.Sort Go.Lib
theorem zbP {T:Nat→Prop}{w w':World}{g:Option Addr}{n c:Nat}{l:List UInt8}(h:Src w 1 (.slice g n c) n (u8s l)) (hc:Chg T w w') (hn:∀b,g.map (·.block)=some b→¬T b):Src w' 1 (.slice g n c) n (u8s l):=by
 rcases h with h|⟨ad,c',e,hl,hs,h1⟩
 ·exact .inl h
 ·refine .inr ⟨ad,c',e,hl,fun j u hj=>?_,h1⟩
  have h0:=hs j u hj
  cases e
  have hb:(ad.add j).block=ad.block:=by unfold Addr.add;split<;>rfl
  rw [hc.cell (by rw [hb];exact hb▸World.block_lt_of_cell? w _ h0) (by rw [hb];exact hn _ rfl)]
  exact h0
theorem Ext.stored1 {w w1 w2:World}{b:Nat}(h:Ext w w1) (hc:Chg (·=b) w1 w2) (hb:w.heap.size≤b):Ext w w2:=((Chg.of_ext h).trans hc (fun _ _ e=>e)).ext (fun i hi e=>by omega)
end
section
open Go.RowKit Go.Sort Go.Lib
theorem flipTo_mid {b p:Nat}{A M C:List UInt8}(hp:8*A.length≤p):∀(k:Nat),(∀i,i<k→b.testBit i=true→p+i<8*(A.length+M.length))→zbT b p (A++(M++C)) k=A++(zbT b (p-8*A.length) M k++C)
 | 0,_=>rfl
 | k+1,h=>by
  have ih:=flipTo_mid (C:=C) hp k (fun i hi=>h i (by omega))
  rw [zbT,zbT,ih]
  by_cases hb:b.testBit k=true
  ·have hlt:=h k (by omega) hb
   obtain ⟨X,hX⟩:∃X,X=zbT b (p-8*A.length) M k:=⟨_,rfl⟩
   have hXl:X.length=M.length:=by rw [hX,zcx]
   rw [←hX]
   unfold zci
   have e1:(p+k)/8=A.length+(p-8*A.length+k)/8:=by omega
   have hj:(p-8*A.length+k)/8<X.length:=by omega
   have e2:(A++(X++C)).getD ((p+k)/8) 0=X.getD ((p-8*A.length+k)/8) 0:=by
    rw [e1,yaq,yaq,yax (by omega),Nat.add_sub_cancel_left,yaI hj]
   have e3:flipB b p k (X.getD ((p-8*A.length+k)/8) 0)=flipB b (p-8*A.length) k (X.getD ((p-8*A.length+k)/8) 0):=by
    unfold flipB
    rw [show (p+k)%8=(p-8*A.length+k)%8 by omega]
   rw [e2,e3,e1,List.set_append_right _ _ (by omega),Nat.add_sub_cancel_left,List.set_append_left _ _ hj]
  ·have hz:bitN b k=0:=by
    rw [zds]
    cases h2:b.testBit k with
    | false=>rfl
    | true=>exact absurd h2 hb
   rw [zcU hz,zcU hz]
theorem flipTo_stay {b p:Nat}{M:List UInt8}{k:Nat}:∀(m:Nat),k≤m→(∀i,k≤i→i<m→b.testBit i=false)→zbT b p M m=zbT b p M k
 | 0,hk,_=>by rw [show k=0 by omega]
 | m+1,hk,h=>by
  by_cases e:k=m+1
  ·rw [e]
  ·rw [zbT,flipTo_stay m (by omega) (fun i h1 h2=>h i h1 (by omega))]
   refine zcU ?_
   rw [zds,h m (by omega) (by omega)]
   rfl
theorem flipL_mid {b p:Nat}{A M C:List UInt8}(hp:8*A.length≤p) (hb:∀i,i<32→b.testBit i=true→p+i<8*(A.length+M.length)):flipL b p (A++(M++C))=A++(flipL b (p-8*A.length) M++C):=by
 have h1:=flipTo_mid (C:=C) hp (min 32 (8*(A++(M++C)).length-p)) (fun i hi=>hb i (by omega))
 unfold flipL
 rw [h1]
 congr 2
 refine flipTo_stay _ ?_ (fun i h1 h2=>?_)
 ·simp only [yae];omega
 ·cases hbi:b.testBit i with
  | false=>rfl
  | true =>
   have:=hb i (by omega) hbi
   simp only [yae] at h2
   omega
theorem mask_bits {b left i:Nat}(h:(b%2 ^ left).testBit i=true):i<left:=by
 rw [Nat.testBit_mod_two_pow] at h
 simp at h
 exact h.1
theorem u32_mask (b left:Nat) (h:b<4294967296) (hl:left<32):bits .and .u32 (b:Int) ((2 ^ left-1)%4294967296)=((b%2 ^ left:Nat):Int):=by
 have hp:2 ^ left≤2 ^ 31:=yaL (by omega) (by omega)
 have hp0:0<2 ^ left:=Nat.two_pow_pos _
 have e:((2:Int) ^ left-1)%4294967296=((2 ^ left-1:Nat):Int):=by
  have:(2:Int) ^ left=((2 ^ left:Nat):Int):=by push_cast;rfl
  rw [this];omega
 rw [e]
 show IntKind.u32.wrap ((BitVec.ofInt 32 (b:Int) &&& BitVec.ofInt 32 ((2 ^ left-1:Nat):Int)).toNat:Nat)=_
 rw [BitVec.toNat_and,BitVec.toNat_ofInt,BitVec.toNat_ofInt]
 have e1:((b:Int)%((2 ^ 32:Nat):Int)).toNat=b:=by omega
 have e2:(((2 ^ left-1:Nat):Int)%((2 ^ 32:Nat):Int)).toNat=2 ^ left-1:=by omega
 rw [e1,e2,Nat.and_two_pow_sub_one_eq_mod,IntKind.wrap_u32]
 have:=Nat.mod_le b (2 ^ left)
 omega
theorem bits_range (c:Int) (n:Nat) (hn:0<n):0≤(Int.tmod c (n:Int)+n)%(n:Int)∧(Int.tmod c (n:Int)+n)%(n:Int)<n∧-(n:Int)<Int.tmod c (n:Int)∧Int.tmod c (n:Int)<n:=by
 have h1:=Int.emod_nonneg (Int.tmod c (n:Int)+n) (show (n:Int)≠0 by omega)
 have h2:=Int.emod_lt_of_pos (Int.tmod c (n:Int)+n) (show (0:Int)<(n:Int) by omega)
 have key:∀d:Int,0≤d→0≤Int.tmod d (n:Int)∧Int.tmod d (n:Int)<n:=by
  intro d hd
  rw [Int.tmod_eq_emod_of_nonneg hd]
  exact ⟨Int.emod_nonneg d (by omega),Int.emod_lt_of_pos d (by omega)⟩
 refine ⟨h1,h2,?_⟩
 rcases Int.le_total 0 c with h|h
 ·have:=key c h;omega
 ·have:=key (-c) (by omega)
  rw [Int.neg_tmod] at this;omega
end
end Go.Proofs.YtlmfhjipbjkcbaaGreatDoor
