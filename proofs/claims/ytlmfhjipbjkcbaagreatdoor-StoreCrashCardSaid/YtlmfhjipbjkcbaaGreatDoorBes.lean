/- x -/
import Derived.Lib.Hide
import Derived.Lib.QuietBelow
set_option linter.unusedSimpArgs false
set_option linter.unusedVariables false
namespace Go.Proofs.YtlmfhjipbjkcbaaGreatDoor
section
abbrev yaa:=@List.getElem?_cons_zero
abbrev yab:=@List.getElem?_cons_succ
abbrev yac:=@List.getElem?_eq_getElem
abbrev yad:=@List.getElem?_eq_some_iff
abbrev yae:=@List.length_append
abbrev yaf:=@World.block_lt_of_cell?
abbrev yag:=@List.mem_of_getElem?
abbrev yah:=@List.mem_append
abbrev yai:=@List.take_of_length_le
abbrev yaj:=@List.append_assoc
abbrev yak:=@Go.WideShapes.add_plain
abbrev yal:=@List.mem_singleton
abbrev yam:=@beq_eq_false_iff_ne
abbrev yan:=@Nat.lt_of_lt_of_le
abbrev yao:=@List.take_add_one
abbrev yap:=@List.mem_map
abbrev yaq:=@List.mem_cons
abbrev yar:=@List.getElem?_map
abbrev yas:=@List.getD_eq_getElem?_getD
abbrev yat:=@List.mem_append_left
abbrev yau:=@List.length_eq_zero_iff
abbrev yav:=@List.map_append
abbrev yaw:=@List.length_map
abbrev yax:=@List.mem_map_of_mem
abbrev yay:=@List.mem_filter
abbrev yaz:=@List.getElem?_append_right
abbrev yaA:=@List.drop_eq_getElem_cons
abbrev yaB:=@List.length_take
abbrev yaC:=@List.length_drop
abbrev yaD:=@List.mem_cons_of_mem
abbrev yaE:=@bodyPost_ret
abbrev yaF:=@wpQuiet_nil
abbrev yaG:=@Option.some.inj
abbrev yaH:=@List.mem_iff_getElem
abbrev yaI:=@List.sum_cons
abbrev yaJ:=@List.map_cons
abbrev yaK:=@Bool.and_eq_true
abbrev yaL:=@decide_eq_true_eq
abbrev yaM:=@List.getElem_mem
abbrev yaN:=@List.getElem?_append_left
abbrev yaO:=@List.cons_append
abbrev yaP:=@List.nil_append
abbrev yaQ:=@Nat.pow_le_pow_right
abbrev yaR:=@List.mem_append_right
abbrev yaS:=@List.take_append_drop
abbrev yaT:=@List.getElem?_take
abbrev yaU:=@List.nodup_cons
abbrev yaV:=@List.all_eq_true
abbrev yaW:=@List.filter_append
structure Pt where
 t:Int
 v:Int
 s:Int
deriving DecidableEq,Inhabited
def Rises (l:List Pt):Prop:=l.Pairwise fun p q=>p.t<q.t
def zcN:List Pt→Bool
 | []=>true
 | [_]=>true
 | p::q::l=>decide (p.t<q.t)&&zcN (q::l)
theorem risesB_iff (l:List Pt):zcN l=true↔∀(i:Nat) (p q:Pt),l[i]?=some p→l[i+1]?=some q→p.t<q.t:=by
 induction l with
 | nil=>simp [zcN]
 | cons p l ih =>
  cases l with
  | nil=>simp [zcN]
  | cons q l =>
   simp only [zcN,yaK,yaL,ih]
   constructor
   ·rintro ⟨h1,h2⟩ i x y hx hy
    cases i with
    | zero=>simp at hx hy;subst hx hy;exact h1
    | succ i=>exact h2 i x y (by simpa using hx) (by simpa using hy)
   ·intro h
    exact ⟨h 0 p q rfl rfl,fun i x y hx hy=>h (i+1) x y (by simpa using hx) (by simpa using hy)⟩
theorem rises_iff (l:List Pt):zcN l=true↔Rises l:=by
 induction l with
 | nil=>simp [zcN,Rises]
 | cons p l ih =>
  cases l with
  | nil=>simp [zcN,Rises]
  | cons q l =>
   simp only [zcN,yaK,yaL,ih,Rises]
   rw [List.pairwise_cons (a:=p)]
   constructor
   ·rintro ⟨h1,h2⟩
    refine ⟨fun x hx=>?_,h2⟩
    rcases yaq.1 hx with rfl|hx
    ·exact h1
    ·have:=(List.pairwise_cons.1 h2).1 x hx;omega
   ·rintro ⟨h1,h2⟩
    exact ⟨h1 q (by simp),h2⟩
theorem Rises.nil:Rises []:=List.Pairwise.nil
theorem Rises.same {l:List Pt}(h:Rises l) {p q:Pt}(hp:p∈l) (hq:q∈l) (ht:p.t=q.t):p=q:=by
 induction l with
 | nil=>cases hp
 | cons x l ih =>
  have h':=List.pairwise_cons.1 h
  rcases yaq.1 hp with ep|hp
  ·rcases yaq.1 hq with eq|hq
   ·rw [ep,eq]
   ·have:=h'.1 q hq;subst ep;omega
  ·rcases yaq.1 hq with eq|hq
   ·have:=h'.1 p hp;subst eq;omega
   ·exact ih h'.2 hp hq
theorem Rises.sub {l k:List Pt}(h:Rises l) (hs:List.Sublist k l):Rises k:=List.Pairwise.sublist hs h
theorem Rises.snoc {l:List Pt}(h:Rises l) {p:Pt}(hp:∀q∈l,q.t<p.t):Rises (l++[p]):=by
 unfold Rises
 rw [List.pairwise_append]
 exact ⟨h,by simp,fun a ha b hb=>by simp at hb;subst hb;exact hp a ha⟩
theorem Rises.lt_of_last {l:List Pt}(h:Rises l) {x p:Pt}(hx:l.getLast?=some x) (ht:x.t<p.t):∀q∈l,q.t<p.t:=by
 intro q hq
 rcases List.eq_nil_or_concat l with rfl|⟨k,y,rfl⟩
 ·simp at hx
 ·rw [List.concat_eq_append] at *
  simp at hx;subst hx
  unfold Rises at h
  rw [List.pairwise_append] at h
  rcases yah.1 hq with hq|hq
  ·have:=h.2.2 q hq y (by simp);omega
  ·simp at hq;subst hq;exact ht
theorem Rises.at {l:List Pt}(h:Rises l) {i j:Nat}{p q:Pt}(hp:l[i]?=some p) (hq:l[j]?=some q) (hij:i<j):p.t<q.t:=by
 obtain ⟨hi,rfl⟩:=yad.1 hp
 obtain ⟨hj,rfl⟩:=yad.1 hq
 exact List.pairwise_iff_getElem.1 h i j hi hj hij
theorem Rises.eq {a b:List Pt}(ha:Rises a) (hb:Rises b) (h:∀p,p∈a↔p∈b):a=b:=by
 induction a generalizing b with
 | nil =>
  cases b with
  | nil=>rfl
  | cons y b=>have:=(h y).2 (by simp);cases this
 | cons x a ih =>
  cases b with
  | nil=>have:=(h x).1 (by simp);cases this
  | cons y b =>
   have ha':=List.pairwise_cons.1 ha
   have hb':=List.pairwise_cons.1 hb
   have exy:x=y:=by
    rcases yaq.1 ((h x).1 (by simp)) with e|hx
    ·exact e
    ·rcases yaq.1 ((h y).2 (by simp)) with e|hy
     ·exact e.symm
     ·have:=ha'.1 y hy;have:=hb'.1 x hx;omega
   subst exy
   congr 1
   refine ih ha'.2 hb'.2 fun p=>⟨fun hp=>?_,fun hp=>?_⟩
   ·rcases yaq.1 ((h p).1 (by simp [hp])) with rfl|h1
    ·have:=ha'.1 p hp;omega
    ·exact h1
   ·rcases yaq.1 ((h p).2 (by simp [hp])) with rfl|h1
    ·have:=hb'.1 p hp;omega
    ·exact h1
structure IsMerge (ls:List (List Pt)) (out:List Pt):Prop where
 rises:Rises out
 best:∀p∈out,∃(i:Nat) (l:List Pt),ls[i]?=some l∧p∈l∧∀(j:Nat) (m:List Pt) (q:Pt),ls[j]?=some m→q∈m→q.t=p.t→q.s<p.s∨(q.s=p.s∧j≤i)
 has:∀(j:Nat) (m:List Pt) (q:Pt),ls[j]?=some m→q∈m→∃p∈out,p.t=q.t
theorem IsMerge.nil:IsMerge [] []:=⟨Rises.nil,by simp,by simp⟩
theorem IsMerge.single {l:List Pt}(h:Rises l):IsMerge [l] l:=by
 refine ⟨h,fun p hp=>⟨0,l,rfl,hp,fun j m q hj hq ht=>?_⟩,fun j m q hj hq=>?_⟩
 ·cases j with
  | zero=>simp at hj;subst hj;have:=h.same hq hp ht;subst this;exact .inr ⟨rfl,Nat.le_refl _⟩
  | succ j=>simp at hj
 ·cases j with
  | zero=>simp at hj;subst hj;exact ⟨q,hq,rfl⟩
  | succ j=>simp at hj
theorem IsMerge.append {A B:List (List Pt)}{a b c:List Pt}(ha:IsMerge A a) (hb:IsMerge B b) (hc:IsMerge [a,b] c):IsMerge (A++B) c:=by
 have pa:∀{p:Pt},p∈c→p∈a→(∀q∈a,q.t=p.t→q.s<p.s∨q.s=p.s)→(∀q∈b,q.t=p.t→q.s<p.s)→∃(i:Nat) (l:List Pt),(A++B)[i]?=some l∧p∈l∧∀(j:Nat) (m:List Pt) (q:Pt),(A++B)[j]?=some m→q∈m→q.t=p.t→q.s<p.s∨(q.s=p.s∧j≤i):=by
  intro p _ hpa _ h2
  obtain ⟨i,l,hi,hpl,hbest⟩:=ha.best p hpa
  have hil:=(yad.1 hi).1
  refine ⟨i,l,by rw [yaN hil];exact hi,hpl,fun j m q hj hq ht=>?_⟩
  rcases Nat.lt_or_ge j A.length with hjl|hjl
  ·rw [yaN hjl] at hj;exact hbest j m q hj hq ht
  ·rw [yaz hjl] at hj
   obtain ⟨x,hx,hxt⟩:=hb.has _ m q hj hq
   obtain ⟨i',l',hi',hpl',hbest'⟩:=hb.best x hx
   have h3:=hbest' _ m q hj hq hxt.symm
   have h4:=h2 x hx (by omega)
   left;omega
 have pb:∀{p:Pt},p∈b→(∀q∈a,q.t=p.t→q.s<p.s∨q.s=p.s)→∃(i:Nat) (l:List Pt),(A++B)[i]?=some l∧p∈l∧∀(j:Nat) (m:List Pt) (q:Pt),(A++B)[j]?=some m→q∈m→q.t=p.t→q.s<p.s∨(q.s=p.s∧j≤i):=by
  intro p hpb h1
  obtain ⟨i,l,hi,hpl,hbest⟩:=hb.best p hpb
  refine ⟨A.length+i,l,by rw [yaz (by omega)];simpa using hi,hpl,fun j m q hj hq ht=>?_⟩
  rcases Nat.lt_or_ge j A.length with hjl|hjl
  ·rw [yaN hjl] at hj
   obtain ⟨x,hx,hxt⟩:=ha.has _ m q hj hq
   obtain ⟨i',l',hi',hpl',hbest'⟩:=ha.best x hx
   have h3:=hbest' _ m q hj hq hxt.symm
   have h4:=h1 x hx (by omega)
   omega
  ·rw [yaz hjl] at hj
   have:=hbest _ m q hj hq ht
   omega
 refine ⟨hc.rises,fun p hp=>?_,fun j m q hj hq=>?_⟩
 ·obtain ⟨i,l,hi,hpl,hbest⟩:=hc.best p hp
  match i,hi with
  | 0,hi =>
   simp at hi;subst hi
   refine pa hp hpl (fun q hq ht=>?_) (fun q hq ht=>?_)
   ·have:=hbest 0 a q rfl hq ht;omega
   ·have:=hbest 1 b q rfl hq ht;omega
  | 1,hi =>
   simp at hi;subst hi
   refine pb hpl (fun q hq ht=>?_)
   have:=hbest 0 a q rfl hq ht;omega
  | i+2,hi=>simp at hi
 ·rcases Nat.lt_or_ge j A.length with hjl|hjl
  ·rw [yaN hjl] at hj
   obtain ⟨x,hx,hxt⟩:=ha.has _ m q hj hq
   obtain ⟨y,hy,hyt⟩:=hc.has 0 a x rfl hx
   exact ⟨y,hy,by omega⟩
  ·rw [yaz hjl] at hj
   obtain ⟨x,hx,hxt⟩:=hb.has _ m q hj hq
   obtain ⟨y,hy,hyt⟩:=hc.has 1 b x rfl hx
   exact ⟨y,hy,by omega⟩
def cutL (a b:Int) (l:List Pt):List Pt:=l.filter fun p=>decide (a≤p.t)&&decide (p.t<b)
theorem mem_cutL {a b:Int}{l:List Pt}{p:Pt}:p∈cutL a b l↔p∈l∧a≤p.t∧p.t<b:=by simp [cutL]
theorem Rises.cut {l:List Pt}(h:Rises l) (a b:Int):Rises (cutL a b l):=h.sub List.filter_sublist
end
section
structure LeOrd {α:Type}(le:α→α→Prop):Prop where
 refl:∀a,le a a
 trans:∀a b c,le a b→le b c→le a c
section
variable {α:Type} {le:α→α→Prop}
def Heap (le:α→α→Prop) (h:List α):Prop:=∀(k:Nat) (x y:α),0<k→h[k]?=some x→h[(k-1)/2]?=some y→le y x
structure UpInv (le:α→α→Prop) (h:List α) (i:Nat):Prop where
 edge:∀(k:Nat) (x y:α),0<k→k≠i→h[k]?=some x→h[(k-1)/2]?=some y→le y x
 over:∀(k:Nat) (x y:α),0<k→0<i→(k-1)/2=i→h[k]?=some x→h[(i-1)/2]?=some y→le y x
structure DownInv (le:α→α→Prop) (h:List α) (i:Nat):Prop where
 edge:∀(k:Nat) (x y:α),0<k→(k-1)/2≠i→h[k]?=some x→h[(k-1)/2]?=some y→le y x
 over:∀(k:Nat) (x y:α),0<k→0<i→(k-1)/2=i→h[k]?=some x→h[(i-1)/2]?=some y→le y x
def swapL (h:List α) (i k:Nat) (x y:α):List α:=(h.set i y).set k x
theorem swapL_at {h:List α}{i k:Nat}{x y:α}(hi:h[i]?=some x) (hk:h[k]?=some y) (j:Nat):(swapL h i k x y)[j]?=if j=k then some x else if j=i then some y else h[j]?:=by
 have h1:=(yad.1 hi).1
 have h2:=(yad.1 hk).1
 unfold swapL
 rw [List.getElem?_set]
 by_cases e:k=j
 ·subst e;simp [h2]
 ·rw [if_neg e,if_neg (fun h=>e h.symm),List.getElem?_set]
  by_cases e2:i=j
  ·subst e2;simp [h1]
  ·rw [if_neg e2,if_neg (fun h=>e2 h.symm)]
theorem swapL_perm {h:List α}{i k:Nat}{x y:α}(hi:h[i]?=some x) (hk:h[k]?=some y):(swapL h i k x y).Perm h:=by
 obtain ⟨h1,rfl⟩:=yad.1 hi
 obtain ⟨h2,rfl⟩:=yad.1 hk
 exact List.set_set_perm h1 h2
theorem swapL_length {h:List α}{i k:Nat}{x y:α}:(swapL h i k x y).length=h.length:=by simp [swapL]
theorem UpInv.new {h:List α}(hh:Heap le h) (x:α):UpInv le (h++[x]) h.length:=by
 refine ⟨fun k a b hk hne ha hb=>?_,fun k a b hk hi he ha hb=>?_⟩
 ·have hlt:k<h.length:=by
   have:=(yad.1 ha).1;simp at this;omega
  rw [yaN hlt] at ha
  rw [yaN (by omega)] at hb
  exact hh k a b hk ha hb
 ·have:=(yad.1 ha).1;simp at this;omega
theorem UpInv.done {h:List α}{i:Nat}(hu:UpInv le h i) (hd:i=0∨∀x y,h[i]?=some x→h[(i-1)/2]?=some y→le y x):Heap le h:=by
 intro k x y hk hx hy
 by_cases e:k=i
 ·subst e
  rcases hd with rfl|hd
  ·omega
  ·exact hd x y hx hy
 ·exact hu.edge k x y hk e hx hy
theorem UpInv.step (O:LeOrd le) {h:List α}{i:Nat}{x y:α}(hu:UpInv le h i) (h0:0<i) (hx:h[i]?=some x) (hy:h[(i-1)/2]?=some y) (hle:le x y) :
 UpInv le (swapL h i ((i-1)/2) x y) ((i-1)/2):=by
 refine ⟨fun k a b hk hne ha hb=>?_,fun k a b hk hi he ha hb=>?_⟩
 ·rw [swapL_at hx hy] at ha hb
  rw [if_neg hne] at ha
  by_cases e:k=i
  ·subst e
   simp at ha hb;subst ha hb;exact hle
  ·rw [if_neg e] at ha
   by_cases e2:(k-1)/2=(i-1)/2
   ·rw [if_pos e2] at hb;cases hb
    have:=hu.edge k a y hk e ha (by rw [e2];exact hy)
    exact O.trans _ _ _ hle this
   ·rw [if_neg e2] at hb
    by_cases e3:(k-1)/2=i
    ·rw [if_pos e3] at hb;cases hb
     exact hu.over k a y hk h0 e3 ha hy
    ·rw [if_neg e3] at hb;exact hu.edge k a b hk e ha hb
 ·rw [swapL_at hx hy] at ha hb
  rw [if_neg (by omega),if_neg (by omega)] at hb
  rw [if_neg (by omega)] at ha
  have h1:=hu.edge ((i-1)/2) y b hi (by omega) hy hb
  by_cases e:k=i
  ·subst e;simp at ha;subst ha;exact h1
  ·rw [if_neg e] at ha
   exact O.trans _ _ _ h1 (hu.edge k a y hk e ha (by rw [he];exact hy))
theorem DownInv.new {h:List α}(hh:Heap le h) (x:α) (n:Nat):DownInv le ((h.set 0 x).take n) 0:=by
 refine ⟨fun k a b hk hne ha hb=>?_,fun k a b hk hi=>absurd hi (by omega)⟩
 rw [yaT] at ha hb
 split at ha
 ·split at hb
  ·rw [List.getElem?_set_ne (by omega)] at ha hb
   exact hh k a b hk ha hb
  ·simp at hb
 ·simp at ha
theorem DownInv.done {h:List α}{i:Nat}(hu:DownInv le h i) (hd:∀k x y,0<k→(k-1)/2=i→h[k]?=some x→h[i]?=some y→le y x):Heap le h:=by
 intro k x y hk hx hy
 by_cases e:(k-1)/2=i
 ·rw [e] at hy;exact hd k x y hk e hx hy
 ·exact hu.edge k x y hk e hx hy
theorem DownInv.step {h:List α}{i k:Nat}{x y:α}(hu:DownInv le h i) (h0:0<k) (hki:(k-1)/2=i) (hx:h[i]?=some x) (hy:h[k]?=some y) (hle:le y x)
 (hmin:∀(j:Nat) (z:α),0<j→(j-1)/2=i→h[j]?=some z→le y z):DownInv le (swapL h i k x y) k:=by
 refine ⟨fun j a b hj hne ha hb=>?_,fun j a b hj hi he ha hb=>?_⟩
 ·rw [swapL_at hx hy] at ha hb
  rw [if_neg hne] at hb
  by_cases e:j=k
  ·subst e
   rw [if_pos rfl] at ha;cases ha
   rw [if_pos hki] at hb;cases hb
   exact hle
  ·rw [if_neg e] at ha
   by_cases e2:(j-1)/2=i
   ·rw [if_pos e2] at hb;cases hb
    rw [if_neg (by omega)] at ha
    exact hmin j a hj e2 ha
   ·rw [if_neg e2] at hb
    by_cases e3:j=i
    ·rw [if_pos e3] at ha;cases ha
     subst e3
     exact hu.over k y b h0 hj hki hy hb
    ·rw [if_neg e3] at ha;exact hu.edge j a b hj e2 ha hb
 ·rw [swapL_at hx hy] at ha hb
  rw [hki,if_neg (by omega),if_pos rfl] at hb;cases hb
  rw [if_neg (by omega),if_neg (by omega)] at ha
  exact hu.edge j a y hj (by omega) ha (by rw [he];exact hy)
theorem Heap.first (O:LeOrd le) {h:List α}(hh:Heap le h) {x:α}(h0:h[0]?=some x):∀(k:Nat) (y:α),h[k]?=some y→le x y:=by
 intro k
 induction k using Nat.strongRecOn with
 | ind k ih =>
  intro y hy
  rcases Nat.eq_zero_or_pos k with rfl|hk
  ·rw [h0] at hy;cases hy;exact O.refl _
  ·have hl:=(yad.1 hy).1
   have hp:h[(k-1)/2]?=some (h[(k-1)/2]'(by omega)):=yac (by omega)
   exact O.trans _ _ _ (ih ((k-1)/2) (by omega) _ hp) (hh k y _ hk hy hp)
theorem pop_perm {h:List α}{n:Nat}{x z:α}(hl:h.length=n+1) (h0:h[0]?=some x) (hz:h[n]?=some z):(x::(h.set 0 z).take n).Perm h:=by
 cases h with
 | nil=>simp at hl
 | cons y t =>
  simp at h0 hl;subst h0
  rw [List.set_cons_zero]
  cases n with
  | zero=>simp at hl;subst hl;simp
  | succ n =>
   rw [List.take_succ_cons]
   simp at hz
   refine List.Perm.cons _ ?_
   have e:t=t.take n++[z]:=by
    have h1:n<t.length:=by omega
    have:=(yad.1 hz).2
    rw [←this,←List.take_succ_eq_append_getElem h1,yai (by omega)]
   conv=>rhs;rw [e]
   exact (List.perm_append_comm (l₁:=[z]) (l₂:=t.take n))
end
end
section
open Go.RowKit Go.Sort
def Ext (w w':World):Prop:=Below w.heap.size w w'
theorem Ext.below {w w':World}(h:Ext w w'):Below w.heap.size w w':=h
theorem Ext.refl (w:World):Ext w w:=Below.refl _ _
theorem Ext.size {w w':World}(h:Ext w w'):w.heap.size≤w'.heap.size:=Below.size h
theorem Ext.trans {a b c:World}(h:Ext a b) (k:Ext b c):Ext a c:=Below.trans h (Below.mono k (Below.size h))
theorem Ext.alloc {a w:World}(h:Ext a w) (o:Obj):Ext a (w.alloc o):=Below.alloc h (Below.size h) o
theorem Ext.drew {a w:World}(h:Ext a w):Ext a w.drew:=Below.drew h
theorem Ext.setCell {a w:World}(h:Ext a w) {p:Addr}(hp:a.heap.size≤p.block) (u:Value):Ext a (w.setCell p u):=Below.setCell h hp u
theorem Ext.frozens {w w':World}(h:Ext w w'):∀b o,b<w.heap.size→w'.frozen? ⟨b,o,none⟩=w.frozen? ⟨b,o,none⟩:=fun b o hb=>Below.frozen h (p:=⟨b,o,none⟩) hb
theorem Ext.cell {w w':World}(h:Ext w w') {p:Addr}(hp:p.block<w.heap.size):w'.cell? p=w.cell? p:=Below.cell h hp
theorem Ext.block {w w':World}(h:Ext w w') {k:Nat}(hk:k<w.heap.size):w'.heap[k]?=w.heap[k]?:=Below.block h k hk
theorem Ext.regrown (w:World) (d:Nat) (os:Array Obj):Ext w (grow (redrawn w d) os):=below_regrown w d os
theorem Calls.grown_of {P:Program}{f:FuncId}{args:Array Value}{w:World}{d:Nat}{os:Array Obj}{v:Value}
 (h:Calls P f args (grow (redrawn w d) os) fun e w'=>e=.returned v∧Ext (grow (redrawn w d) os) w'):Calls P f args (grow (redrawn w d) os) fun e w''=>e=.returned v∧∃p:Regrown,w''=grow (redrawn w p.d) p.os :=
 Calls.regrown_of h
theorem Calls.grown_of_same {P:Program}{f:FuncId}{args:Array Value}{w:World}{d:Nat}{os:Array Obj}{v:Value}
 (h:Calls P f args (grow (redrawn w d) os) fun e w'=>e=.returned v∧grow (redrawn w d) os=w'):Calls P f args (grow (redrawn w d) os) fun e w''=>e=.returned v∧∃p:Regrown,w''=grow (redrawn w p.d) p.os :=
 h.mono fun _ _ ⟨he,hw⟩=>⟨he,⟨d,os⟩,hw.symm⟩
theorem i64_and127 (n:Int):bits .and .i64 n 127=n%128:=by
 have h:(BitVec.ofInt 64 127).toNat=2 ^ 7-1:=by decide
 have key:(BitVec.ofInt 64 n &&& BitVec.ofInt 64 127).toNat=(n%((2 ^ 64:Nat):Int)).toNat%2 ^ 7:=by
  rw [BitVec.toNat_and,BitVec.toNat_ofInt,h,Nat.and_two_pow_sub_one_eq_mod]
 show IntKind.i64.wrap ((BitVec.ofInt 64 n &&& BitVec.ofInt 64 127).toNat:Nat)=n%128
 rw [key,IntKind.wrap_i64]
 omega
end
section
open Go.RowKit Go.Lib Go.Sort
def hiL:Nat→Nat→List Bool
 | 0,_=>[]
 | n+1,v=>v.testBit n::hiL n v
theorem zaG:∀(n v:Nat),(hiL n v).length=n
 | 0,_=>rfl
 | n+1,v=>by simp [hiL,zaG n v]
def bnumL (L:List Bool):Nat:=L.foldl (fun v b=>2*v+b.toNat) 0
theorem foldl_num (L:List Bool):∀v,L.foldl (fun v b=>2*v+b.toNat) v=v*2 ^ L.length+bnumL L:=by
 induction L with
 | nil=>intro v;simp [bnumL]
 | cons b L ih =>
  intro v
  simp only [List.foldl_cons,List.length_cons,bnumL]
  rw [ih,ih (2*0+b.toNat),Nat.pow_succ,Nat.mul_zero,Nat.zero_add,Nat.add_mul,Nat.mul_comm 2 v,Nat.mul_assoc,Nat.mul_comm 2 (2 ^ L.length)]
  omega
theorem numL_cons (b:Bool) (L:List Bool):bnumL (b::L)=b.toNat*2 ^ L.length+bnumL L:=by
 show (b::L).foldl _ 0=_
 rw [List.foldl_cons,foldl_num];simp
theorem numL_snoc (L:List Bool) (b:Bool):bnumL (L++[b])=2*bnumL L+b.toNat:=by
 unfold bnumL;rw [List.foldl_append];rfl
theorem bnumL_lt:∀L:List Bool,bnumL L<2 ^ L.length
 | []=>by simp [bnumL]
 | b::L=>by
  have h:=bnumL_lt L
  rw [numL_cons,List.length_cons,Nat.pow_succ]
  cases b<;>simp<;>omega
theorem num_hiL:∀(n v:Nat),bnumL (hiL n v)=v%2 ^ n
 | 0,v=>by simp [hiL,bnumL,Nat.mod_one]
 | n+1,v=>by
  rw [hiL,numL_cons,zaG,num_hiL n v]
  have h1:v%2 ^ (n+1)=v%2 ^ n+2 ^ n*(v/2 ^ n%2):=by rw [Nat.pow_succ,Nat.mod_mul]
  have h2:(v.testBit n).toNat=v/2 ^ n%2:=by
   rw [Nat.testBit_eq_decide_div_mod_eq]
   rcases (show v/2 ^ n%2=0∨v/2 ^ n%2=1 by omega) with h|h<;>simp [h]
  rw [h1,h2,Nat.mul_comm (2 ^ n)]
  omega
def bitB (B:List UInt8) (i:Nat):Bool:=(B.getD (i/8) 0).toNat.testBit (7-i%8)
structure Bits (B:List UInt8) (L:List Bool):Prop where
 len:B.length=(L.length+7)/8
 at':∀i,bitB B i=L.getD i false
theorem Bits.nil:Bits [] []:=⟨rfl,fun i=>by simp [bitB]⟩
theorem u8_or (x y:UInt8) (k:Nat):(x ||| y).toNat.testBit k=(x.toNat.testBit k || y.toNat.testBit k):=by
 rw [UInt8.toNat_or,Nat.testBit_or]
theorem bit_byte (b:Bool) (s k:Nat) (hs:s<8):(UInt8.ofNat (b.toNat*2 ^ s)).toNat.testBit k=(b&&decide (k=s)):=by
 have h:b.toNat*2 ^ s<256:=by
  have:2 ^ s≤2 ^ 7:=yaQ (by omega) (by omega)
  cases b<;>simp<;>omega
 rw [UInt8.toNat_ofNat',Nat.mod_eq_of_lt (by simpa using h)]
 cases b
 ·simp
 ·simp only [Bool.toNat_true,Nat.one_mul,Bool.true_and]
  rw [Nat.testBit_two_pow]
  rcases Nat.decEq s k with h|h
  ·simp [h];omega
  ·simp [h]
theorem Bits.set {B:List UInt8}{L:List Bool}(h:Bits B L) (b:Bool) (hm:L.length%8≠0) :
 Bits (B.set (L.length/8) (B.getD (L.length/8) 0 ||| UInt8.ofNat (b.toNat*2 ^ (7-L.length%8)))) (L++[b]):=by
 have hl:=h.len
 refine ⟨by rw [List.length_set,hl,yae];simp;omega,fun i=>?_⟩
 have h0:=h.at' i
 unfold bitB at h0 ⊢
 have hin:L.length/8<B.length:=by omega
 rw [yas,List.getElem?_set]
 by_cases hi:L.length/8=i/8
 ·rw [if_pos hi,if_pos hin,Option.getD_some,u8_or,hi,h0,bit_byte _ _ _ (by omega)]
  rcases Nat.lt_trichotomy i L.length with h1|h1|h1
  ·rw [show decide (7-i%8=7-L.length%8)=false by simp;omega,Bool.and_false,Bool.or_false]
   simp [yas,yaN h1]
  ·subst h1
   simp [yas]
  ·rw [show decide (7-i%8=7-L.length%8)=false by simp;omega,Bool.and_false,Bool.or_false]
   simp only [yas]
   rw [List.getElem?_eq_none (by omega),List.getElem?_eq_none (by simp;omega)]
 ·rw [if_neg hi,←yas,h0]
  rcases Nat.lt_trichotomy i L.length with h1|h1|h1
  ·simp [yas,yaN h1]
  ·exact absurd (by rw [h1]) hi
  ·simp only [yas]
   rw [List.getElem?_eq_none (by omega),List.getElem?_eq_none (by simp;omega)]
theorem Bits.new {B:List UInt8}{L:List Bool}(h:Bits B L) (b:Bool) (hm:L.length%8=0):Bits (B++[UInt8.ofNat (b.toNat*2 ^ 7)]) (L++[b]):=by
 have hl:=h.len
 have hBL:B.length=L.length/8:=by omega
 refine ⟨by rw [yae,hl,yae];simp;omega,fun i=>?_⟩
 have h0:=h.at' i
 unfold bitB at h0 ⊢
 simp only [yas] at h0 ⊢
 rcases Nat.lt_trichotomy (i/8) B.length with h1|h1|h1
 ·rw [yaN h1,yaN (by omega)];exact h0
 ·rw [h1,yaz (Nat.le_refl _),Nat.sub_self,yaa,Option.getD_some,bit_byte _ _ _ (by omega)]
  rw [yaz (by omega)]
  by_cases hi:i=L.length
  ·subst hi;simp [hm]
  ·rw [show decide (7-i%8=7)=false by simp;omega,Bool.and_false,List.getElem?_eq_none (by simp;omega)];rfl
 ·rw [List.getElem?_eq_none (by simp;omega),List.getElem?_eq_none (by simp;omega)];simp
theorem Bits.zero {B:List UInt8}{L:List Bool}(h:Bits B L) {i:Nat}(hi:L.length≤i):bitB B i=false:=by
 rw [h.at',yas,List.getElem?_eq_none hi];rfl
theorem zdj {L K R:List Bool}{i:Nat}(h:L.drop i=K++R):L.drop (i+K.length)=R:=by
 rw [←List.drop_drop,h,List.drop_left]
def numAt (B:List UInt8) (i n:Nat):Nat:=bnumL ((List.range n).map fun k=>bitB B (i+k))
theorem numAt_succ (B:List UInt8) (i n:Nat):numAt B i (n+1)=2*numAt B i n+(bitB B (i+n)).toNat:=by
 unfold numAt
 rw [List.range_succ,yav,List.map_singleton,numL_snoc]
theorem numAt_lt (B:List UInt8) (i n:Nat):numAt B i n<2 ^ n:=by
 have:=bnumL_lt ((List.range n).map fun k=>bitB B (i+k))
 simpa [numAt] using this
theorem Bits.num {B:List UInt8}{L:List Bool}(h:Bits B L) {i:Nat}{K R:List Bool}(hd:L.drop i=K++R):numAt B i K.length=bnumL K:=by
 unfold numAt
 congr 1
 refine List.ext_getElem? (fun k=>?_)
 rcases Nat.lt_or_ge k K.length with hk|hk
 ·rw [yar,List.getElem?_range hk,Option.map_some,yac hk]
  congr 1
  rw [h.at',yas]
  have:=congrArg (fun l=>l[k]?) hd
  simp only [List.getElem?_drop] at this
  rw [this,yaN hk,yac hk];rfl
 ·rw [List.getElem?_eq_none (by simpa using hk),List.getElem?_eq_none hk]
theorem Bits.num0 {B:List UInt8}{L:List Bool}(h:Bits B L) {i n:Nat}(hi:L.length≤i):numAt B i n=0:=by
 induction n with
 | zero=>rfl
 | succ n ih=>rw [numAt_succ,ih,h.zero (by omega)];rfl
def leadN (x:Nat):Nat:=if x=0 then 64 else 63-x.log2
def zba (x:Nat):Nat:=if x=0 then 64 else if x%2=1 then 0 else zba (x/2)+1
termination_by x
decreasing_by omega
theorem trail_zero:zba 0=64:=by rw [zba,if_pos rfl]
theorem zdS:∀(n x:Nat),x≤n→0<x→∃m,x=2 ^ zba x*(2*m+1)
 | 0,x,h,h0=>by omega
 | n+1,x,h,h0=>by
  rw [zba,if_neg (by omega)]
  by_cases hx:x%2=1
  ·rw [if_pos hx];exact ⟨x/2,by omega⟩
  ·rw [if_neg hx]
   obtain ⟨m,hm⟩:=zdS n (x/2) (by omega) (by omega)
   refine ⟨m,?_⟩
   rw [Nat.pow_succ,Nat.mul_comm (2 ^ _) 2,Nat.mul_assoc,←hm]
   omega
theorem lead_spec {x:Nat}(h0:0<x) (h:x<18446744073709551616):leadN x≤63∧x<2 ^ (64-leadN x)∧2 ^ (63-leadN x)≤x:=by
 have h1:=Nat.log2_self_le (n:=x) (by omega)
 have h2:=Nat.lt_log2_self (n:=x)
 have h3:x.log2<64:=(Nat.log2_lt (by omega)).2 h
 unfold leadN
 rw [if_neg (by omega)]
 refine ⟨by omega,?_,?_⟩
 ·rw [show 64-(63-x.log2)=x.log2+1 by omega];exact h2
 ·rw [show 63-(63-x.log2)=x.log2 by omega];exact h1
theorem lead_only {x n:Nat}(h0:0<x) (h:x<18446744073709551616) (hn:n≤63) (h1:x<2 ^ (64-n)) (h2:2 ^ (63-n)≤x):n=leadN x:=by
 obtain ⟨k1,k2,k3⟩:=lead_spec h0 h
 have a:=(Nat.pow_lt_pow_iff_right (a:=2) (by omega)).1 (Nat.lt_of_le_of_lt h2 k2)
 have b:=(Nat.pow_lt_pow_iff_right (a:=2) (by omega)).1 (Nat.lt_of_le_of_lt k3 h1)
 omega
theorem zcD {x:Nat}(h0:0<x) (h:x<18446744073709551616):leadN x+zba x≤63:=by
 obtain ⟨k1,k2,k3⟩:=lead_spec h0 h
 obtain ⟨m,hm⟩:=zdS x x (Nat.le_refl _) h0
 have h1:2 ^ zba x≤x:=by
  have:2 ^ zba x*1≤2 ^ zba x*(2*m+1):=Nat.mul_le_mul_left _ (by omega)
  omega
 have:=(Nat.pow_lt_pow_iff_right (a:=2) (by omega)).1 (Nat.lt_of_le_of_lt h1 k2)
 omega
theorem trail_dvd {x b:Nat}(h0:0<x) (hb:b≤zba x):x/2 ^ b*2 ^ b=x:=by
 obtain ⟨m,hm⟩:=zdS x x (Nat.le_refl _) h0
 refine Nat.div_mul_cancel (Nat.dvd_trans (Nat.pow_dvd_pow 2 hb) ⟨_,hm⟩)
theorem in_window {x a b:Nat}(h0:0<x) (h:x<18446744073709551616) (ha:a≤leadN x) (hb:b≤zba x):x/2 ^ b<2 ^ (64-a-b)∧0<x/2 ^ b:=by
 obtain ⟨k1,k2,k3⟩:=lead_spec h0 h
 have hl:=zcD h0 h
 have h1:x<2 ^ (64-a):=yan k2 (yaQ (by omega) (by omega))
 refine ⟨?_,?_⟩
 ·refine Nat.div_lt_of_lt_mul ?_
  rw [←Nat.pow_add,show b+(64-a-b)=64-a by omega]
  exact h1
 ·rcases Nat.eq_zero_or_pos (x/2 ^ b) with h2|h2
  ·have:=trail_dvd h0 hb
   rw [h2] at this
   omega
  ·exact h2
theorem low_bit {x:Nat}(h0:0<x) (h:x<18446744073709551616):x &&& (18446744073709551616-x)=2 ^ zba x:=by
 obtain ⟨m,hm⟩:=zdS x x (Nat.le_refl _) h0
 have hl:=zcD h0 h
 have ht:zba x≤63:=by omega
 obtain ⟨t,hte⟩:∃t,t=zba x:=⟨_,rfl⟩
 rw [←hte] at hm ht ⊢
 have hp:(18446744073709551616:Nat)=2 ^ t*2 ^ (64-t):=by rw [←Nat.pow_add,show t+(64-t)=64 by omega]
 have hlt:2*m+1<2 ^ (64-t):=by
  rcases Nat.lt_or_ge (2*m+1) (2 ^ (64-t)) with h1|h1
  ·exact h1
  ·have:=Nat.mul_le_mul_left (2 ^ t) h1
   omega
 have hs:18446744073709551616-x=2 ^ t*(2 ^ (64-t)-(2*m+1)):=by rw [Nat.mul_sub,←hp,←hm]
 have hq:2 ^ (64-t)=2*2 ^ (63-t):=by rw [show 64-t=(63-t)+1 by omega,Nat.pow_succ,Nat.mul_comm]
 rw [hs,hm,Nat.mul_comm (2 ^ t),Nat.mul_comm (2 ^ t)]
 refine Nat.eq_of_testBit_eq (fun i=>?_)
 rw [Nat.testBit_and,Nat.testBit_mul_two_pow,Nat.testBit_mul_two_pow,Nat.testBit_two_pow]
 by_cases hi:t≤i
 ·obtain ⟨j,rfl⟩:∃j,i=t+j:=⟨i-t,by omega⟩
  rw [Nat.add_sub_cancel_left]
  cases j with
  | zero =>
   simp [Nat.testBit_zero,hi]
   omega
  | succ j =>
   have e1:(2*m+1).testBit (j+1)=m.testBit j:=by rw [Nat.testBit_succ,show (2*m+1)/2=m by omega]
   have e2:(2 ^ (64-t)-(2*m+1)).testBit (j+1)=(2 ^ (63-t)-(m+1)).testBit j:=by rw [Nat.testBit_succ,show (2 ^ (64-t)-(2*m+1))/2=2 ^ (63-t)-(m+1) by omega]
   rw [e1,e2,Nat.testBit_two_pow_sub_succ (by omega)]
   simp
   intro h _
   exact h
 ·simp [hi]
  omega
structure XvS where
 bits:List Bool
 last:Option Nat
 now:Option (Nat×Nat)
def hasW (w:Option (Nat×Nat)) (a b:Nat):Bool:=match w with|none=>false|some (p,q)=>decide (p≤a)&&decide (q≤b)
def anewX (x:Nat):List Bool:=[true,true]++hiL 6 (leadN x)++hiL 6 (63-leadN x-zba x)++hiL (64-leadN x-zba x) (x/2 ^ zba x)
def againX (w:Nat×Nat) (x:Nat):List Bool:=[true,false]++hiL (64-w.1-w.2) (x/2 ^ w.2)
def zce (now:Option (Nat×Nat)) (x:Nat):List Bool×Option (Nat×Nat) :=
 if x=0 then ([false],now) else if hasW now (leadN x) (zba x)=true then (againX (now.getD (0,0)) x,now) else (anewX x,some (leadN x,zba x))
def zbo (s:XvS) (v:Nat):List Bool×Option (Nat×Nat):=match s.last with
 | none=>(hiL 64 v,s.now)
 | some p=>zce s.now (v ^^^ p)
def zdy (s:XvS) (v:Nat):XvS:=⟨s.bits++(zbo s v).1,some v,(zbo s v).2⟩
def xvS (l:List Nat):XvS:=l.foldl zdy ⟨[],none,none⟩
def zbL (l:List Nat):List Bool:=(xvS l).bits
theorem xvS_next {l:List Nat}{i:Nat}{t:Nat}(h:l[i]?=some t):xvS (l.take (i+1))=zdy (xvS (l.take i)) t:=by
 unfold xvS
 rw [yao,h];simp
theorem xvS_last:∀{l:List Nat}{i:Nat},(h:i≤l.length)→(xvS (l.take i)).last=if i=0 then none else l[i-1]?
 | l,0,_=>by simp [xvS]
 | l,i+1,h=>by
  have ht:l[i]?=some l[i]:=yac (by omega)
  rw [xvS_next ht,if_neg (by omega),Nat.add_sub_cancel,ht];rfl
theorem xv_more (k:List Nat):∀s:XvS,∃R,(k.foldl zdy s).bits=s.bits++R:=by
 induction k with
 | nil=>exact fun s=>⟨[],by simp⟩
 | cons t k ih =>
  intro s
  obtain ⟨R,hR⟩:=ih (zdy s t)
  exact ⟨(zbo s t).1++R,by rw [List.foldl_cons,hR];simp [zdy]⟩
theorem xv_prefix (l:List Nat) (i:Nat):∃R,zbL l=(xvS (l.take i)).bits++R:=by
 obtain ⟨R,hR⟩:=xv_more (l.drop i) (xvS (l.take i))
 refine ⟨R,?_⟩
 rw [←hR]
 unfold zbL xvS
 rw [←List.foldl_append,yaS]
theorem xv_at {l:List Nat}{i:Nat}{t:Nat}(h:l[i]?=some t):∃R,(zbL l).drop (xvS (l.take i)).bits.length=(zbo (xvS (l.take i)) t).1++R:=by
 obtain ⟨R,hR⟩:=xv_prefix l (i+1)
 refine ⟨R,?_⟩
 rw [hR,xvS_next h]
 show ((xvS (l.take i)).bits++(zbo (xvS (l.take i)) t).1++R).drop _=_
 rw [yaj,List.drop_left]
theorem xvPart_len (s:XvS) (t:Nat):(zbo s t).1.length≤78:=by
 unfold zbo
 split
 ·rw [zaG];omega
 ·unfold zce
  split
  ·simp
  ·split
   ·unfold againX;simp [zaG];omega
   ·unfold anewX;simp [zaG];omega
theorem xv_len (k:List Nat):∀s:XvS,(k.foldl zdy s).bits.length≤s.bits.length+78*k.length:=by
 induction k with
 | nil=>intro s;simp
 | cons t k ih =>
  intro s
  have h1:=ih (zdy s t)
  have h2:=xvPart_len s t
  have h3:(zdy s t).bits.length=s.bits.length+(zbo s t).1.length:=by simp [zdy]
  simp only [List.foldl_cons,List.length_cons]
  omega
theorem zdP (l:List Nat):(zbL l).length≤78*l.length:=by
 have:=xv_len l ⟨[],none,none⟩
 simpa [zbL,xvS] using this
def WinOk (w:Option (Nat×Nat)):Prop:=∀p,w=some p→p.1+p.2≤63
theorem other_ok {now:Option (Nat×Nat)}(h:WinOk now) {x:Nat}(hx:x<18446744073709551616):WinOk (zce now x).2:=by
 unfold zce
 split
 ·exact h
 ·split
  ·exact h
  ·rename_i h0 _
   intro p hp
   cases hp
   exact zcD (by omega) hx
theorem xvS_ok {l:List Nat}(hl:∀v∈l,v<18446744073709551616) (i:Nat):WinOk (xvS (l.take i)).now:=by
 have key:∀(k:List Nat),(∀v∈k,v<18446744073709551616)→∀(s:XvS),WinOk s.now→(∀p,s.last=some p→p<18446744073709551616)→WinOk (k.foldl zdy s).now:=by
  intro k
  induction k with
  | nil=>exact fun _ s h _=>h
  | cons t k ih =>
   intro hk s h hs
   refine ih (fun v hv=>hk v (yaD _ hv)) (zdy s t) ?_ (fun p hp=>?_)
   ·unfold zdy zbo
    simp only
    cases he:s.last with
    | none=>exact h
    | some p=>exact other_ok h (Nat.xor_lt_two_pow (n:=64) (hk t List.mem_cons_self) (hs p he))
   ·simp only [zdy] at hp
    cases hp
    exact hk _ List.mem_cons_self
 exact key _ (fun v hv=>hl v (List.mem_of_mem_take hv)) _ (fun p hp=>by cases hp) (fun p hp=>by cases hp)
end
section
open Go.RowKit Go.Sort Go.Lib
def neL (l:List Pt):Bool:=!l.isEmpty
theorem filter_at {ls:List (List Pt)}{i:Nat}{l:List Pt}(h:ls[i]?=some l) (hn:neL l=true):(ls.filter neL)[((ls.take i).filter neL).length]?=some l:=by
 have hi:=(yad.1 h).1
 have e:ls=ls.take i++l::ls.drop (i+1):=by
  have:=yaA hi
  rw [(yad.1 h).2] at this
  rw [←this,yaS]
 have e2:ls.filter neL=(ls.take i).filter neL++l::(ls.drop (i+1)).filter neL:=by
  conv=>lhs;rw [e]
  rw [yaW,List.filter_cons_of_pos hn]
 rw [e2,yaz (Nat.le_refl _),Nat.sub_self];rfl
theorem at_filter:∀{ls:List (List Pt)}{j:Nat}{m:List Pt},(ls.filter neL)[j]?=some m→∃i,ls[i]?=some m∧neL m=true∧((ls.take i).filter neL).length=j
 | [],j,m,h=>by simp at h
 | l::ls,j,m,h=>by
  by_cases hn:neL l=true
  ·rw [List.filter_cons_of_pos hn] at h
   cases j with
   | zero=>simp at h;subst h;exact ⟨0,rfl,hn,by simp⟩
   | succ j =>
    obtain ⟨i,h1,h2,h3⟩:=at_filter (ls:=ls) (j:=j) (by simpa using h)
    exact ⟨i+1,by simpa using h1,h2,by rw [List.take_succ_cons,List.filter_cons_of_pos hn,List.length_cons,h3]⟩
  ·rw [List.filter_cons_of_neg hn] at h
   obtain ⟨i,h1,h2,h3⟩:=at_filter (ls:=ls) (j:=j) h
   exact ⟨i+1,by simpa using h1,h2,by rw [List.take_succ_cons,List.filter_cons_of_neg hn,h3]⟩
theorem neL_mem {l:List Pt}{p:Pt}(h:p∈l):neL l=true:=by
 cases l with
 | nil=>simp at h
 | cons=>rfl
theorem IsMerge.ne {ls:List (List Pt)}{out:List Pt}(h:IsMerge ls out):IsMerge (ls.filter neL) out:=by
 refine ⟨h.rises,fun p hp=>?_,fun j m q hj hq=>?_⟩
 ·obtain ⟨i,l,hi,hpl,hb⟩:=h.best p hp
  refine ⟨_,l,filter_at hi (neL_mem hpl),hpl,fun j m q hj hq ht=>?_⟩
  obtain ⟨j0,h1,_,h3⟩:=at_filter hj
  rcases hb j0 m q h1 hq ht with e|⟨e,hle⟩
  ·exact .inl e
  ·refine .inr ⟨e,?_⟩
   rw [←h3]
   have e2:(ls.take i)=ls.take j0++(ls.take i).drop j0:=by
    conv=>lhs;rw [←yaS j0 (ls.take i)]
    rw [List.take_take,Nat.min_eq_left hle]
   rw [e2,yaW,yae]
   omega
 ·obtain ⟨j0,h1,_,_⟩:=at_filter hj
  exact h.has j0 m q h1 hq
theorem nodup_le {α:Type} [DecidableEq α]:∀{a b:List α},a.Nodup→(∀x∈a,x∈b)→a.length≤b.length
 | [],_,_,_=>Nat.zero_le _
 | x::a,b,hn,h=>by
  have hx:=h x (by simp)
  have h1:=nodup_le (a:=a) (b:=b.erase x) (yaU.1 hn).2 (fun y hy=>by
   have hne:y≠x:=fun e=>(yaU.1 hn).1 (by rw [←e];exact hy)
   exact (List.mem_erase_of_ne hne).2 (h y (by simp [hy])))
  rw [List.length_erase_of_mem hx] at h1
  have h2:=List.length_pos_of_mem hx
  rw [List.length_cons];omega
theorem rises_nodup {l:List Pt}(h:Rises l):l.Nodup:=h.imp (fun {a b} hab e=>by rw [e] at hab;omega)
theorem IsMerge.len_le {ls:List (List Pt)}{out:List Pt}(h:IsMerge ls out):out.length≤(ls.map List.length).sum:=by
 have h1:=nodup_le (rises_nodup h.rises) (b:=ls.flatten) (fun p hp=>by
  obtain ⟨i,l,hi,hpl,_⟩:=h.best p hp
  exact List.mem_flatten.2 ⟨l,yag hi,hpl⟩)
 rwa [List.length_flatten] at h1
theorem sum_filter (ls:List (List Pt)):((ls.filter neL).map List.length).sum≤(ls.map List.length).sum:=by
 induction ls with
 | nil=>simp
 | cons l ls ih =>
  by_cases h:neL l=true
  ·rw [List.filter_cons_of_pos h];simp;omega
  ·rw [List.filter_cons_of_neg h];simp;omega
theorem sum_cut (ls:List (List Pt)) (f t:Int):((ls.map (cutL f t)).map List.length).sum≤(ls.map List.length).sum:=by
 induction ls with
 | nil=>simp
 | cons l ls ih =>
  simp only [yaJ,yaI]
  have:(cutL f t l).length≤l.length:=List.length_filter_le _ _
  omega
theorem merged_le {H:List (List Pt)}{f t:Int}{out:List Pt}(h:IsMerge ((H.map (cutL f t)).filter neL) out):out.length≤(H.map List.length).sum:=by
 have h1:=h.len_le
 have h2:=sum_filter (H.map (cutL f t))
 have h3:=sum_cut H f t
 omega
end
section
open Go.RowKit Go.Sort Go.Lib
def Best:List (List Pt)→Pt→Prop
 | [],_=>False
 | l::H,p=>(Best H p∧∀q∈l,q.t=p.t→q.s≤p.s)∨(p∈l∧∀q,Best H q→q.t=p.t→q.s<p.s)
theorem Best.mem:∀{H:List (List Pt)}{p:Pt},Best H p→∃l∈H,p∈l
 | _::_,_,.inl ⟨h,_⟩=>by obtain ⟨m,hm,hp⟩:=h.mem;exact ⟨m,by simp [hm],hp⟩
 | l::_,_,.inr ⟨h,_⟩=>⟨l,by simp,h⟩
theorem Best.uniq:∀{H:List (List Pt)},(∀l∈H,Rises l)→∀{p q:Pt},Best H p→Best H q→p.t=q.t→p=q
 | l::H,hr,p,q,hp,hq,ht=>by
  have hr':∀m∈H,Rises m:=fun m hm=>hr m (by simp [hm])
  rcases hp with ⟨h1,h2⟩|⟨h1,h2⟩<;>rcases hq with ⟨k1,k2⟩|⟨k1,k2⟩
  ·exact Best.uniq hr' h1 k1 ht
  ·have:=h2 q k1 ht.symm;have:=k2 p h1 ht;omega
  ·have:=k2 p h1 ht;have:=h2 q k1 ht.symm;omega
  ·exact (hr l (by simp)).same h1 k1 ht
theorem Best.has:∀{H:List (List Pt)},(∀l∈H,Rises l)→∀{q:Pt},(∃l∈H,q∈l)→∃p,Best H p∧p.t=q.t∧q.s≤p.s
 | [],_,q,⟨_,hl,_⟩=>by simp at hl
 | l::H,hr,q,⟨m,hm,hq⟩=>by
  have hr':∀m∈H,Rises m:=fun m hm=>hr m (by simp [hm])
  have hl:=hr l (by simp)
  rcases yaq.1 hm with rfl|hm
  ·rcases Classical.em (∃p,Best H p∧p.t=q.t) with ⟨p,hp,ht⟩|hn
   ·by_cases hs:q.s≤p.s
    ·exact ⟨p,.inl ⟨hp,fun x hx hxt=>by have:=hl.same hx hq (by omega);subst this;exact hs⟩,ht,hs⟩
    ·exact ⟨q,.inr ⟨hq,fun x hx hxt=>by have:=Best.uniq hr' hx hp (by omega);subst this;omega⟩,rfl,Int.le_refl _⟩
   ·exact ⟨q,.inr ⟨hq,fun x hx hxt=>absurd ⟨x,hx,hxt⟩ hn⟩,rfl,Int.le_refl _⟩
  ·obtain ⟨p,hp,ht,hs⟩:=Best.has hr' ⟨m,hm,hq⟩
   rcases Classical.em (∃x∈l,x.t=p.t∧p.s<x.s) with ⟨x,hx,hxt,hxs⟩|hn
   ·exact ⟨x,.inr ⟨hx,fun y hy hyt=>by have:=Best.uniq hr' hy hp (by omega);subst this;exact hxs⟩,by omega,by omega⟩
   ·exact ⟨p,.inl ⟨hp,fun x hx hxt=>Int.not_lt.1 (fun h=>hn ⟨x,hx,hxt,h⟩)⟩,ht,hs⟩
theorem best_append:∀{H K:List (List Pt)},(∀l∈H,Rises l)→(∀l∈K,Rises l)→∀{p:Pt},Best (H++K) p↔(Best K p∧∀q,Best H q→q.t=p.t→q.s≤p.s)∨(Best H p∧∀q,Best K q→q.t=p.t→q.s<p.s)
 | [],K,_,_,p=>by simp [Best]
 | l::H,K,hr,hk,p=>by
  have hr':∀m∈H,Rises m:=fun m hm=>hr m (by simp [hm])
  have hl:=hr l (by simp)
  have ih:=fun p=>best_append (p:=p) hr' hk
  have hu:=fun {p q:Pt} (hp:Best K p) (hq:Best K q) (h:p.t=q.t)=>Best.uniq hk hp hq h
  have hv:=fun {p q:Pt} (hp:Best H p) (hq:Best H q) (h:p.t=q.t)=>Best.uniq hr' hp hq h
  show (Best (H++K) p∧_)∨(p∈l∧_)↔_
  constructor
  ·rintro (⟨h1,h2⟩|⟨h1,h2⟩)
   ·rcases (ih p).1 h1 with ⟨a,b⟩|⟨a,b⟩
    ·refine .inl ⟨a,fun q hq ht=>?_⟩
     rcases hq with ⟨c,_⟩|⟨c,_⟩
     ·exact b q c ht
     ·exact h2 q c ht
    ·exact .inr ⟨.inl ⟨a,h2⟩,b⟩
   ·refine .inr ⟨.inr ⟨h1,fun q hq ht=>?_⟩,fun q hq ht=>?_⟩
    ·rcases Classical.em (∃x,Best K x∧x.t=q.t) with ⟨x,hx,hxt⟩|hn
     ·by_cases hs:q.s≤x.s
      ·have:=h2 x ((ih x).2 (.inl ⟨hx,fun y hy hyt=>by have:=hv hy hq (by omega);subst this;exact hs⟩)) (by omega);omega
      ·exact h2 q ((ih q).2 (.inr ⟨hq,fun y hy hyt=>by have:=hu hy hx (by omega);subst this;omega⟩)) ht
     ·exact h2 q ((ih q).2 (.inr ⟨hq,fun y hy hyt=>absurd ⟨y,hy,hyt⟩ hn⟩)) ht
    ·rcases Classical.em (∃x,Best H x∧x.t=q.t) with ⟨x,hx,hxt⟩|hn
     ·by_cases hs:x.s≤q.s
      ·exact h2 q ((ih q).2 (.inl ⟨hq,fun y hy hyt=>by have:=hv hy hx (by omega);subst this;exact hs⟩)) ht
      ·have:=h2 x ((ih x).2 (.inr ⟨hx,fun y hy hyt=>by have:=hu hy hq (by omega);subst this;omega⟩)) (by omega);omega
     ·exact h2 q ((ih q).2 (.inl ⟨hq,fun y hy hyt=>absurd ⟨y,hy,hyt⟩ hn⟩)) ht
  ·rintro (⟨h1,h2⟩|⟨h1,h2⟩)
   ·refine .inl ⟨(ih p).2 (.inl ⟨h1,fun q hq ht=>?_⟩),fun q hq ht=>?_⟩
    ·obtain ⟨x,hx,hxt,hxs⟩:=Best.has hr (q:=q) (by obtain ⟨m,hm,hqm⟩:=hq.mem;exact ⟨m,by simp [hm],hqm⟩)
     have:=h2 x hx (by omega);omega
    ·obtain ⟨x,hx,hxt,hxs⟩:=Best.has hr (q:=q) ⟨l,by simp,hq⟩
     have:=h2 x hx (by omega);omega
   ·rcases h1 with ⟨a,b⟩|⟨a,b⟩
    ·exact .inl ⟨(ih p).2 (.inr ⟨a,h2⟩),b⟩
    ·refine .inr ⟨a,fun q hq ht=>?_⟩
     rcases (ih q).1 hq with ⟨c,_⟩|⟨c,_⟩
     ·exact h2 q c ht
     ·exact b q c ht
theorem best_ne {H:List (List Pt)}{p:Pt}:Best (H.filter neL) p↔Best H p:=by
 induction H generalizing p with
 | nil=>rfl
 | cons l H ih =>
  cases l with
  | nil =>
   rw [List.filter_cons_of_neg (by simp [neL]),ih]
   constructor
   ·intro h;exact .inl ⟨h,by simp⟩
   ·rintro (⟨h,_⟩|⟨h,_⟩)
    ·exact h
    ·simp at h
  | cons a l =>
   rw [List.filter_cons_of_pos (by simp [neL])]
   simp only [Best,ih]
theorem best_cut {H:List (List Pt)}{f t:Int}{p:Pt}:Best (H.map (cutL f t)) p↔Best H p∧f≤p.t∧p.t<t:=by
 induction H generalizing p with
 | nil=>simp [Best]
 | cons l H ih =>
  rw [yaJ]
  simp only [Best,ih,mem_cutL]
  constructor
  ·rintro (⟨⟨h1,h2⟩,h3⟩|⟨⟨h1,h2⟩,h3⟩)
   ·exact ⟨.inl ⟨h1,fun q hq ht=>h3 q ⟨hq,by omega⟩ ht⟩,h2⟩
   ·exact ⟨.inr ⟨h1,fun q hq ht=>h3 q ⟨hq,by omega⟩ ht⟩,h2⟩
  ·rintro ⟨⟨h1,h3⟩|⟨h1,h3⟩,h2⟩
   ·exact .inl ⟨⟨h1,h2⟩,fun q hq ht=>h3 q hq.1 ht⟩
   ·exact .inr ⟨⟨h1,h2⟩,fun q hq ht=>h3 q hq.1 ht⟩
theorem best_at {H:List (List Pt)}(hr:∀l∈H,Rises l) {p:Pt}:(∃(i:Nat) (l:List Pt),H[i]?=some l∧p∈l∧∀(j:Nat) (m:List Pt) (q:Pt),H[j]?=some m→q∈m→q.t=p.t→q.s<p.s∨(q.s=p.s∧j≤i))→Best H p:=by
 induction H with
 | nil=>rintro ⟨i,l,h,_⟩;simp at h
 | cons m H ih =>
  have hr':∀m∈H,Rises m:=fun m hm=>hr m (by simp [hm])
  rintro ⟨i,l,hi,hp,hb⟩
  cases i with
  | zero =>
   obtain rfl:m=l:=by simpa using hi
   refine .inr ⟨hp,fun q hq ht=>?_⟩
   obtain ⟨k,hk,hqk⟩:=hq.mem
   obtain ⟨j,hj,rfl⟩:=yaH.1 hk
   have:=hb (j+1) _ q (by simp [hj]) hqk ht
   omega
  | succ i =>
   refine .inl ⟨ih hr' ⟨i,l,by simpa using hi,hp,fun j k q hj hq ht=>?_⟩,fun q hq ht=>?_⟩
   ·have:=hb (j+1) k q (by simpa using hj) hq ht
    omega
   ·have:=hb 0 m q rfl hq ht
    omega
theorem IsMerge.iff {H:List (List Pt)}{o:List Pt}(h:IsMerge H o) (hr:∀l∈H,Rises l) {p:Pt}:p∈o↔Best H p:=by
 constructor
 ·intro hp
  exact best_at hr (h.best p hp)
 ·intro hp
  obtain ⟨l,hl,hpl⟩:=hp.mem
  obtain ⟨j,hj,rfl⟩:=yaH.1 hl
  obtain ⟨q,hq,ht⟩:=h.has j _ p (yac hj) hpl
  have:=Best.uniq hr (best_at hr (h.best q hq)) hp ht
  rw [←this];exact hq
def EqvL (H K:List (List Pt)):Prop:=∀p,Best H p↔Best K p
theorem EqvL.refl (H:List (List Pt)):EqvL H H:=fun _=>Iff.rfl
theorem EqvL.symm {H K:List (List Pt)}(h:EqvL H K):EqvL K H:=fun p=>(h p).symm
theorem EqvL.trans {H K L:List (List Pt)}(h:EqvL H K) (k:EqvL K L):EqvL H L:=fun p=>(h p).trans (k p)
theorem EqvL.cut {H K:List (List Pt)}(h:EqvL H K) (f t:Int):EqvL ((H.map (cutL f t)).filter neL) ((K.map (cutL f t)).filter neL):=fun p=>by
 rw [best_ne,best_ne,best_cut,best_cut,h p]
theorem EqvL.append {H K M:List (List Pt)}(h:EqvL H K) (hh:∀l∈H,Rises l) (hk:∀l∈K,Rises l) (hm:∀l∈M,Rises l):EqvL (H++M) (K++M):=fun p=>by
 rw [best_append hh hm,best_append hk hm]
 simp only [h _]
theorem EqvL.same {H K:List (List Pt)}(h:EqvL H K) (hh:∀l∈H,Rises l) (hk:∀l∈K,Rises l) {a b:List Pt}(ha:IsMerge H a) (hb:IsMerge K b):a=b :=
 ha.rises.eq hb.rises fun p=>by rw [ha.iff hh,hb.iff hk];exact h p
theorem best_one {l:List Pt}{p:Pt}:Best [l] p↔p∈l:=by simp [Best]
theorem EqvL.merged {H:List (List Pt)}(hh:∀l∈H,Rises l) {o:List Pt}(h:IsMerge H o):EqvL H [o]:=fun p=>by rw [best_one,h.iff hh]
theorem eqv_ne (H:List (List Pt)):EqvL (H.filter neL) H:=fun _=>best_ne
theorem cut_rises {H:List (List Pt)}(hh:∀l∈H,Rises l) (f t:Int):∀l∈(H.map (cutL f t)).filter neL,Rises l:=fun l hl=>by
 obtain ⟨h1,_⟩:=yay.1 hl
 obtain ⟨m,hm,rfl⟩:=yap.1 h1
 exact (hh m hm).cut f t
theorem EqvL.told {H K:List (List Pt)}(h:EqvL H K) (hh:∀l∈H,Rises l) (hk:∀l∈K,Rises l) (f t:Int) {a b:List Pt}(ha:IsMerge ((H.map (cutL f t)).filter neL) a) (hb:IsMerge ((K.map (cutL f t)).filter neL) b):a=b :=
 (h.cut f t).same (cut_rises hh f t) (cut_rises hk f t) ha hb
end
end Go.Proofs.YtlmfhjipbjkcbaaGreatDoor
