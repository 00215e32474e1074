/- x -/
set_option linter.unusedSimpArgs false
set_option linter.unusedVariables false
namespace Go.Proofs.YtlmfhjipbjkcbaaGreatDoor
section
abbrev yaa:=@List.getElem?_cons_zero
abbrev yab:=@List.getElem?_cons_succ
abbrev yac:=@List.getElem?_eq_getElem
abbrev yad:=@List.getElem?_eq_some_iff
abbrev yae:=@List.length_append
abbrev yaf:=@List.mem_of_getElem?
abbrev yag:=@List.mem_append
abbrev yah:=@List.take_of_length_le
abbrev yai:=@List.append_assoc
abbrev yaj:=@List.mem_singleton
abbrev yak:=@beq_eq_false_iff_ne
abbrev yal:=@Nat.lt_of_lt_of_le
abbrev yam:=@List.take_add_one
abbrev yan:=@List.mem_map
abbrev yao:=@List.mem_cons
abbrev yap:=@List.getElem?_map
abbrev yaq:=@List.getD_eq_getElem?_getD
abbrev yar:=@List.mem_append_left
abbrev yas:=@List.length_eq_zero_iff
abbrev yat:=@List.map_append
abbrev yau:=@List.length_map
abbrev yav:=@List.mem_map_of_mem
abbrev yaw:=@List.mem_filter
abbrev yax:=@List.getElem?_append_right
abbrev yay:=@List.drop_eq_getElem_cons
abbrev yaz:=@List.length_take
abbrev yaA:=@List.length_drop
abbrev yaB:=@List.mem_cons_of_mem
abbrev yaC:=@Option.some.inj
abbrev yaD:=@List.mem_iff_getElem
abbrev yaE:=@List.sum_cons
abbrev yaF:=@List.map_cons
abbrev yaG:=@Bool.and_eq_true
abbrev yaH:=@decide_eq_true_eq
abbrev yaI:=@List.getElem?_append_left
abbrev yaJ:=@List.cons_append
abbrev yaK:=@List.nil_append
abbrev yaL:=@Nat.pow_le_pow_right
abbrev yaM:=@List.mem_append_right
abbrev yaN:=@List.take_append_drop
abbrev yaO:=@List.getElem?_take
abbrev yaP:=@List.nodup_cons
abbrev yaQ:=@List.all_eq_true
abbrev yaR:=@List.filter_append
structure Pt where
 t:Int
 v:Int
 s:Int
deriving DecidableEq,Inhabited
def Rises (l:List Pt):Prop:=l.Pairwise fun p q=>p.t<q.t
def zcG:List Pt→Bool
 | []=>true
 | [_]=>true
 | p::q::l=>decide (p.t<q.t)&&zcG (q::l)
theorem risesB_iff (l:List Pt):zcG l=true↔∀(i:Nat) (p q:Pt),l[i]?=some p→l[i+1]?=some q→p.t<q.t:=by
 induction l with
 | nil=>simp [zcG]
 | cons p l ih =>
  cases l with
  | nil=>simp [zcG]
  | cons q l =>
   simp only [zcG,yaG,yaH,ih]
   constructor
   ·rintro ⟨h1,h2⟩ i x y hx hy
    cases i with
    | zero=>simp at hx hy;subst hx hy;exact h1
    | succ i=>exact h2 i x y (by simpa using hx) (by simpa using hy)
   ·intro h
    exact ⟨h 0 p q rfl rfl,fun i x y hx hy=>h (i+1) x y (by simpa using hx) (by simpa using hy)⟩
theorem rises_iff (l:List Pt):zcG l=true↔Rises l:=by
 induction l with
 | nil=>simp [zcG,Rises]
 | cons p l ih =>
  cases l with
  | nil=>simp [zcG,Rises]
  | cons q l =>
   simp only [zcG,yaG,yaH,ih,Rises]
   rw [List.pairwise_cons (a:=p)]
   constructor
   ·rintro ⟨h1,h2⟩
    refine ⟨fun x hx=>?_,h2⟩
    rcases yao.1 hx with rfl|hx
    ·exact h1
    ·have:=(List.pairwise_cons.1 h2).1 x hx;omega
   ·rintro ⟨h1,h2⟩
    exact ⟨h1 q (by simp),h2⟩
theorem Rises.nil:Rises []:=List.Pairwise.nil
theorem Rises.same {l:List Pt}(h:Rises l) {p q:Pt}(hp:p∈l) (hq:q∈l) (ht:p.t=q.t):p=q:=by
 induction l with
 | nil=>cases hp
 | cons x l ih =>
  have h':=List.pairwise_cons.1 h
  rcases yao.1 hp with ep|hp
  ·rcases yao.1 hq with eq|hq
   ·rw [ep,eq]
   ·have:=h'.1 q hq;subst ep;omega
  ·rcases yao.1 hq with eq|hq
   ·have:=h'.1 p hp;subst eq;omega
   ·exact ih h'.2 hp hq
theorem Rises.sub {l k:List Pt}(h:Rises l) (hs:List.Sublist k l):Rises k:=List.Pairwise.sublist hs h
theorem Rises.snoc {l:List Pt}(h:Rises l) {p:Pt}(hp:∀q∈l,q.t<p.t):Rises (l++[p]):=by
 unfold Rises
 rw [List.pairwise_append]
 exact ⟨h,by simp,fun a ha b hb=>by simp at hb;subst hb;exact hp a ha⟩
theorem Rises.lt_of_last {l:List Pt}(h:Rises l) {x p:Pt}(hx:l.getLast?=some x) (ht:x.t<p.t):∀q∈l,q.t<p.t:=by
 intro q hq
 rcases List.eq_nil_or_concat l with rfl|⟨k,y,rfl⟩
 ·simp at hx
 ·rw [List.concat_eq_append] at *
  simp at hx;subst hx
  unfold Rises at h
  rw [List.pairwise_append] at h
  rcases yag.1 hq with hq|hq
  ·have:=h.2.2 q hq y (by simp);omega
  ·simp at hq;subst hq;exact ht
theorem Rises.at {l:List Pt}(h:Rises l) {i j:Nat}{p q:Pt}(hp:l[i]?=some p) (hq:l[j]?=some q) (hij:i<j):p.t<q.t:=by
 obtain ⟨hi,rfl⟩:=yad.1 hp
 obtain ⟨hj,rfl⟩:=yad.1 hq
 exact List.pairwise_iff_getElem.1 h i j hi hj hij
theorem Rises.eq {a b:List Pt}(ha:Rises a) (hb:Rises b) (h:∀p,p∈a↔p∈b):a=b:=by
 induction a generalizing b with
 | nil =>
  cases b with
  | nil=>rfl
  | cons y b=>have:=(h y).2 (by simp);cases this
 | cons x a ih =>
  cases b with
  | nil=>have:=(h x).1 (by simp);cases this
  | cons y b =>
   have ha':=List.pairwise_cons.1 ha
   have hb':=List.pairwise_cons.1 hb
   have exy:x=y:=by
    rcases yao.1 ((h x).1 (by simp)) with e|hx
    ·exact e
    ·rcases yao.1 ((h y).2 (by simp)) with e|hy
     ·exact e.symm
     ·have:=ha'.1 y hy;have:=hb'.1 x hx;omega
   subst exy
   congr 1
   refine ih ha'.2 hb'.2 fun p=>⟨fun hp=>?_,fun hp=>?_⟩
   ·rcases yao.1 ((h p).1 (by simp [hp])) with rfl|h1
    ·have:=ha'.1 p hp;omega
    ·exact h1
   ·rcases yao.1 ((h p).2 (by simp [hp])) with rfl|h1
    ·have:=hb'.1 p hp;omega
    ·exact h1
structure IsMerge (ls:List (List Pt)) (out:List Pt):Prop where
 rises:Rises out
 best:∀p∈out,∃(i:Nat) (l:List Pt),ls[i]?=some l∧p∈l∧∀(j:Nat) (m:List Pt) (q:Pt),ls[j]?=some m→q∈m→q.t=p.t→q.s<p.s∨(q.s=p.s∧j≤i)
 has:∀(j:Nat) (m:List Pt) (q:Pt),ls[j]?=some m→q∈m→∃p∈out,p.t=q.t
theorem IsMerge.nil:IsMerge [] []:=⟨Rises.nil,by simp,by simp⟩
theorem IsMerge.single {l:List Pt}(h:Rises l):IsMerge [l] l:=by
 refine ⟨h,fun p hp=>⟨0,l,rfl,hp,fun j m q hj hq ht=>?_⟩,fun j m q hj hq=>?_⟩
 ·cases j with
  | zero=>simp at hj;subst hj;have:=h.same hq hp ht;subst this;exact .inr ⟨rfl,Nat.le_refl _⟩
  | succ j=>simp at hj
 ·cases j with
  | zero=>simp at hj;subst hj;exact ⟨q,hq,rfl⟩
  | succ j=>simp at hj
theorem IsMerge.append {A B:List (List Pt)}{a b c:List Pt}(ha:IsMerge A a) (hb:IsMerge B b) (hc:IsMerge [a,b] c):IsMerge (A++B) c:=by
 have pa:∀{p:Pt},p∈c→p∈a→(∀q∈a,q.t=p.t→q.s<p.s∨q.s=p.s)→(∀q∈b,q.t=p.t→q.s<p.s)→∃(i:Nat) (l:List Pt),(A++B)[i]?=some l∧p∈l∧∀(j:Nat) (m:List Pt) (q:Pt),(A++B)[j]?=some m→q∈m→q.t=p.t→q.s<p.s∨(q.s=p.s∧j≤i):=by
  intro p _ hpa _ h2
  obtain ⟨i,l,hi,hpl,hbest⟩:=ha.best p hpa
  have hil:=(yad.1 hi).1
  refine ⟨i,l,by rw [yaI hil];exact hi,hpl,fun j m q hj hq ht=>?_⟩
  rcases Nat.lt_or_ge j A.length with hjl|hjl
  ·rw [yaI hjl] at hj;exact hbest j m q hj hq ht
  ·rw [yax hjl] at hj
   obtain ⟨x,hx,hxt⟩:=hb.has _ m q hj hq
   obtain ⟨i',l',hi',hpl',hbest'⟩:=hb.best x hx
   have h3:=hbest' _ m q hj hq hxt.symm
   have h4:=h2 x hx (by omega)
   left;omega
 have pb:∀{p:Pt},p∈b→(∀q∈a,q.t=p.t→q.s<p.s∨q.s=p.s)→∃(i:Nat) (l:List Pt),(A++B)[i]?=some l∧p∈l∧∀(j:Nat) (m:List Pt) (q:Pt),(A++B)[j]?=some m→q∈m→q.t=p.t→q.s<p.s∨(q.s=p.s∧j≤i):=by
  intro p hpb h1
  obtain ⟨i,l,hi,hpl,hbest⟩:=hb.best p hpb
  refine ⟨A.length+i,l,by rw [yax (by omega)];simpa using hi,hpl,fun j m q hj hq ht=>?_⟩
  rcases Nat.lt_or_ge j A.length with hjl|hjl
  ·rw [yaI hjl] at hj
   obtain ⟨x,hx,hxt⟩:=ha.has _ m q hj hq
   obtain ⟨i',l',hi',hpl',hbest'⟩:=ha.best x hx
   have h3:=hbest' _ m q hj hq hxt.symm
   have h4:=h1 x hx (by omega)
   omega
  ·rw [yax hjl] at hj
   have:=hbest _ m q hj hq ht
   omega
 refine ⟨hc.rises,fun p hp=>?_,fun j m q hj hq=>?_⟩
 ·obtain ⟨i,l,hi,hpl,hbest⟩:=hc.best p hp
  match i,hi with
  | 0,hi =>
   simp at hi;subst hi
   refine pa hp hpl (fun q hq ht=>?_) (fun q hq ht=>?_)
   ·have:=hbest 0 a q rfl hq ht;omega
   ·have:=hbest 1 b q rfl hq ht;omega
  | 1,hi =>
   simp at hi;subst hi
   refine pb hpl (fun q hq ht=>?_)
   have:=hbest 0 a q rfl hq ht;omega
  | i+2,hi=>simp at hi
 ·rcases Nat.lt_or_ge j A.length with hjl|hjl
  ·rw [yaI hjl] at hj
   obtain ⟨x,hx,hxt⟩:=ha.has _ m q hj hq
   obtain ⟨y,hy,hyt⟩:=hc.has 0 a x rfl hx
   exact ⟨y,hy,by omega⟩
  ·rw [yax hjl] at hj
   obtain ⟨x,hx,hxt⟩:=hb.has _ m q hj hq
   obtain ⟨y,hy,hyt⟩:=hc.has 1 b x rfl hx
   exact ⟨y,hy,by omega⟩
def cutL (a b:Int) (l:List Pt):List Pt:=l.filter fun p=>decide (a≤p.t)&&decide (p.t<b)
theorem mem_cutL {a b:Int}{l:List Pt}{p:Pt}:p∈cutL a b l↔p∈l∧a≤p.t∧p.t<b:=by simp [cutL]
theorem Rises.cut {l:List Pt}(h:Rises l) (a b:Int):Rises (cutL a b l):=h.sub List.filter_sublist
end
section
structure LeOrd {α:Type}(le:α→α→Prop):Prop where
 refl:∀a,le a a
 trans:∀a b c,le a b→le b c→le a c
section
variable {α:Type} {le:α→α→Prop}
def Heap (le:α→α→Prop) (h:List α):Prop:=∀(k:Nat) (x y:α),0<k→h[k]?=some x→h[(k-1)/2]?=some y→le y x
structure UpInv (le:α→α→Prop) (h:List α) (i:Nat):Prop where
 edge:∀(k:Nat) (x y:α),0<k→k≠i→h[k]?=some x→h[(k-1)/2]?=some y→le y x
 over:∀(k:Nat) (x y:α),0<k→0<i→(k-1)/2=i→h[k]?=some x→h[(i-1)/2]?=some y→le y x
structure DownInv (le:α→α→Prop) (h:List α) (i:Nat):Prop where
 edge:∀(k:Nat) (x y:α),0<k→(k-1)/2≠i→h[k]?=some x→h[(k-1)/2]?=some y→le y x
 over:∀(k:Nat) (x y:α),0<k→0<i→(k-1)/2=i→h[k]?=some x→h[(i-1)/2]?=some y→le y x
def swapL (h:List α) (i k:Nat) (x y:α):List α:=(h.set i y).set k x
theorem swapL_at {h:List α}{i k:Nat}{x y:α}(hi:h[i]?=some x) (hk:h[k]?=some y) (j:Nat):(swapL h i k x y)[j]?=if j=k then some x else if j=i then some y else h[j]?:=by
 have h1:=(yad.1 hi).1
 have h2:=(yad.1 hk).1
 unfold swapL
 rw [List.getElem?_set]
 by_cases e:k=j
 ·subst e;simp [h2]
 ·rw [if_neg e,if_neg (fun h=>e h.symm),List.getElem?_set]
  by_cases e2:i=j
  ·subst e2;simp [h1]
  ·rw [if_neg e2,if_neg (fun h=>e2 h.symm)]
theorem swapL_perm {h:List α}{i k:Nat}{x y:α}(hi:h[i]?=some x) (hk:h[k]?=some y):(swapL h i k x y).Perm h:=by
 obtain ⟨h1,rfl⟩:=yad.1 hi
 obtain ⟨h2,rfl⟩:=yad.1 hk
 exact List.set_set_perm h1 h2
theorem swapL_length {h:List α}{i k:Nat}{x y:α}:(swapL h i k x y).length=h.length:=by simp [swapL]
theorem UpInv.new {h:List α}(hh:Heap le h) (x:α):UpInv le (h++[x]) h.length:=by
 refine ⟨fun k a b hk hne ha hb=>?_,fun k a b hk hi he ha hb=>?_⟩
 ·have hlt:k<h.length:=by
   have:=(yad.1 ha).1;simp at this;omega
  rw [yaI hlt] at ha
  rw [yaI (by omega)] at hb
  exact hh k a b hk ha hb
 ·have:=(yad.1 ha).1;simp at this;omega
theorem UpInv.done {h:List α}{i:Nat}(hu:UpInv le h i) (hd:i=0∨∀x y,h[i]?=some x→h[(i-1)/2]?=some y→le y x):Heap le h:=by
 intro k x y hk hx hy
 by_cases e:k=i
 ·subst e
  rcases hd with rfl|hd
  ·omega
  ·exact hd x y hx hy
 ·exact hu.edge k x y hk e hx hy
theorem UpInv.step (O:LeOrd le) {h:List α}{i:Nat}{x y:α}(hu:UpInv le h i) (h0:0<i) (hx:h[i]?=some x) (hy:h[(i-1)/2]?=some y) (hle:le x y) :
 UpInv le (swapL h i ((i-1)/2) x y) ((i-1)/2):=by
 refine ⟨fun k a b hk hne ha hb=>?_,fun k a b hk hi he ha hb=>?_⟩
 ·rw [swapL_at hx hy] at ha hb
  rw [if_neg hne] at ha
  by_cases e:k=i
  ·subst e
   simp at ha hb;subst ha hb;exact hle
  ·rw [if_neg e] at ha
   by_cases e2:(k-1)/2=(i-1)/2
   ·rw [if_pos e2] at hb;cases hb
    have:=hu.edge k a y hk e ha (by rw [e2];exact hy)
    exact O.trans _ _ _ hle this
   ·rw [if_neg e2] at hb
    by_cases e3:(k-1)/2=i
    ·rw [if_pos e3] at hb;cases hb
     exact hu.over k a y hk h0 e3 ha hy
    ·rw [if_neg e3] at hb;exact hu.edge k a b hk e ha hb
 ·rw [swapL_at hx hy] at ha hb
  rw [if_neg (by omega),if_neg (by omega)] at hb
  rw [if_neg (by omega)] at ha
  have h1:=hu.edge ((i-1)/2) y b hi (by omega) hy hb
  by_cases e:k=i
  ·subst e;simp at ha;subst ha;exact h1
  ·rw [if_neg e] at ha
   exact O.trans _ _ _ h1 (hu.edge k a y hk e ha (by rw [he];exact hy))
theorem DownInv.new {h:List α}(hh:Heap le h) (x:α) (n:Nat):DownInv le ((h.set 0 x).take n) 0:=by
 refine ⟨fun k a b hk hne ha hb=>?_,fun k a b hk hi=>absurd hi (by omega)⟩
 rw [yaO] at ha hb
 split at ha
 ·split at hb
  ·rw [List.getElem?_set_ne (by omega)] at ha hb
   exact hh k a b hk ha hb
  ·simp at hb
 ·simp at ha
theorem DownInv.done {h:List α}{i:Nat}(hu:DownInv le h i) (hd:∀k x y,0<k→(k-1)/2=i→h[k]?=some x→h[i]?=some y→le y x):Heap le h:=by
 intro k x y hk hx hy
 by_cases e:(k-1)/2=i
 ·rw [e] at hy;exact hd k x y hk e hx hy
 ·exact hu.edge k x y hk e hx hy
theorem DownInv.step {h:List α}{i k:Nat}{x y:α}(hu:DownInv le h i) (h0:0<k) (hki:(k-1)/2=i) (hx:h[i]?=some x) (hy:h[k]?=some y) (hle:le y x)
 (hmin:∀(j:Nat) (z:α),0<j→(j-1)/2=i→h[j]?=some z→le y z):DownInv le (swapL h i k x y) k:=by
 refine ⟨fun j a b hj hne ha hb=>?_,fun j a b hj hi he ha hb=>?_⟩
 ·rw [swapL_at hx hy] at ha hb
  rw [if_neg hne] at hb
  by_cases e:j=k
  ·subst e
   rw [if_pos rfl] at ha;cases ha
   rw [if_pos hki] at hb;cases hb
   exact hle
  ·rw [if_neg e] at ha
   by_cases e2:(j-1)/2=i
   ·rw [if_pos e2] at hb;cases hb
    rw [if_neg (by omega)] at ha
    exact hmin j a hj e2 ha
   ·rw [if_neg e2] at hb
    by_cases e3:j=i
    ·rw [if_pos e3] at ha;cases ha
     subst e3
     exact hu.over k y b h0 hj hki hy hb
    ·rw [if_neg e3] at ha;exact hu.edge j a b hj e2 ha hb
 ·rw [swapL_at hx hy] at ha hb
  rw [hki,if_neg (by omega),if_pos rfl] at hb;cases hb
  rw [if_neg (by omega),if_neg (by omega)] at ha
  exact hu.edge j a y hj (by omega) ha (by rw [he];exact hy)
theorem Heap.first (O:LeOrd le) {h:List α}(hh:Heap le h) {x:α}(h0:h[0]?=some x):∀(k:Nat) (y:α),h[k]?=some y→le x y:=by
 intro k
 induction k using Nat.strongRecOn with
 | ind k ih =>
  intro y hy
  rcases Nat.eq_zero_or_pos k with rfl|hk
  ·rw [h0] at hy;cases hy;exact O.refl _
  ·have hl:=(yad.1 hy).1
   have hp:h[(k-1)/2]?=some (h[(k-1)/2]'(by omega)):=yac (by omega)
   exact O.trans _ _ _ (ih ((k-1)/2) (by omega) _ hp) (hh k y _ hk hy hp)
theorem pop_perm {h:List α}{n:Nat}{x z:α}(hl:h.length=n+1) (h0:h[0]?=some x) (hz:h[n]?=some z):(x::(h.set 0 z).take n).Perm h:=by
 cases h with
 | nil=>simp at hl
 | cons y t =>
  simp at h0 hl;subst h0
  rw [List.set_cons_zero]
  cases n with
  | zero=>simp at hl;subst hl;simp
  | succ n =>
   rw [List.take_succ_cons]
   simp at hz
   refine List.Perm.cons _ ?_
   have e:t=t.take n++[z]:=by
    have h1:n<t.length:=by omega
    have:=(yad.1 hz).2
    rw [←this,←List.take_succ_eq_append_getElem h1,yah (by omega)]
   conv=>rhs;rw [e]
   exact (List.perm_append_comm (l₁:=[z]) (l₂:=t.take n))
end
end
end Go.Proofs.YtlmfhjipbjkcbaaGreatDoor
