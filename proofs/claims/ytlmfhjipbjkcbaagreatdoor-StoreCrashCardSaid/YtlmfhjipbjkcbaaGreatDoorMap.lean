/- x -/
import Derived.Test.YtlmfhjipbjkcbaaGreatDoorBes
import Derived.Maps.OwnSet
set_option linter.unusedSimpArgs false
set_option linter.unusedVariables false
namespace Go.Proofs.YtlmfhjipbjkcbaaGreatDoor
open Go.RowKit Go.Sort
structure Chg (S:Nat→Prop) (w w':World):Prop where
 os:w'.os=w.os
 tape:w'.tape=w.tape
 output:w'.output=w.output
 size:w.heap.size≤w'.heap.size
 block:∀k,k<w.heap.size→¬S k→w'.heap[k]?=w.heap[k]?
theorem Chg.refl (S:Nat→Prop) (w:World):Chg S w w:=⟨rfl,rfl,rfl,Nat.le_refl _,fun _ _ _=>rfl⟩
theorem Chg.of_ext {S:Nat→Prop}{w w':World}(h:Ext w w'):Chg S w w':=⟨Below.os h,Below.tape h,Below.output h,Below.size h,fun k hk _=>Below.block h k hk⟩
theorem Chg.trans {S T:Nat→Prop}{a b c:World}(h:Chg S a b) (k:Chg T b c) (hT:∀i,i<a.heap.size→T i→S i):Chg S a c :=
 ⟨k.os.trans h.os,k.tape.trans h.tape,k.output.trans h.output,Nat.le_trans h.size k.size,fun i hi hn=>(k.block i (yan hi h.size) (fun ht=>hn (hT i hi ht))).trans (h.block i hi hn)⟩
theorem Chg.mono {S T:Nat→Prop}{a b:World}(h:Chg S a b) (hT:∀i,i<a.heap.size→S i→T i):Chg T a b :=
 ⟨h.os,h.tape,h.output,h.size,fun i hi hn=>h.block i hi (fun hs=>hn (hT i hi hs))⟩
theorem Chg.ext {S:Nat→Prop}{a b:World}(h:Chg S a b) (hS:∀i,i<a.heap.size→¬S i):Ext a b :=
 ⟨h.os,h.tape,h.output,h.size,fun i hi=>h.block i hi (hS i hi)⟩
theorem Chg.cell {S:Nat→Prop}{w w':World}(h:Chg S w w') {p:Addr}(hp:p.block<w.heap.size) (hn:¬S p.block):w'.cell? p=w.cell? p:=World.cell?_of_block (w:=w) (h.block p.block hp hn)
theorem Chg.alloc {S:Nat→Prop}{a w:World}(h:Chg S a w) (o:Obj):Chg S a (w.alloc o) :=
 h.trans (Chg.of_ext (S:=fun _=>False) ((Ext.refl w).alloc o)) (fun _ _ hf=>hf.elim)
theorem Chg.setCell {S:Nat→Prop}{a w:World}(h:Chg S a w) {p:Addr}(hp:p.block<a.heap.size→S p.block) (u:Value):Chg S a (w.setCell p u) :=
 ⟨h.os,h.tape,h.output,Nat.le_trans h.size (by simp [World.setCell]),fun k hk hn=>by
   rw [Below.heap_setCell _ _ _ _ (fun e=>by subst e;exact hn (hp hk))];exact h.block k hk hn⟩
def zbT (w:World) (b:Nat) (o:Obj):World:={ w with heap:=w.heap.setIfInBounds b o }
theorem zcA {w:World}{b:Nat}{o:Obj}(hb:b<w.heap.size):(zbT w b o).heap[b]?=some o:=by
 simp [zbT,hb]
theorem setBlk_other {w:World}{b k:Nat}{o:Obj}(h:k≠b):(zbT w b o).heap[k]?=w.heap[k]?:=by
 simp [zbT,Array.getElem?_setIfInBounds,Ne.symm h]
@[simp] theorem setBlk_size (w:World) (b:Nat) (o:Obj):(zbT w b o).heap.size=w.heap.size:=by simp [zbT]
theorem zdC (w:World) (b:Nat) (o:Obj):Chg (·=b) w (zbT w b o) :=
 ⟨rfl,rfl,rfl,by simp,fun _ _ hn=>setBlk_other hn⟩
section
variable {α:Type} [DecidableEq α]
variable {β γ:Type}
def aget:List (α×β)→α→Option β
 | [],_=>none
 | (a,v)::m,k=>if k=a then some v else aget m k
def aput:List (α×β)→α→β→List (α×β)
 | [],k,v=>[(k,v)]
 | (a,u)::m,k,v=>if k=a then (a,v)::m else (a,u)::aput m k v
def adel:List (α×β)→α→List (α×β)
 | [],_=>[]
 | (a,u)::m,k=>if k=a then m else (a,u)::adel m k
def aidx:List (α×β)→α→Nat→Option (Nat×β)
 | [],_,_=>none
 | (a,v)::m,k,i=>if k=a then some (i,v) else aidx m k (i+1)
theorem aidx_none {m:List (α×β)}{k:α}{i:Nat}:aidx m k i=none↔aget m k=none:=by
 induction m generalizing i with
 | nil=>simp [aidx,aget]
 | cons p m ih=>obtain ⟨a,v⟩:=p;simp only [aidx,aget];split<;>simp [ih]
theorem aidx_some {m:List (α×β)}{k:α}{i j:Nat}{v:β}(h:aidx m k i=some (j,v)):aget m k=some v∧i≤j∧j-i<m.length:=by
 induction m generalizing i with
 | nil=>simp [aidx] at h
 | cons p m ih =>
  obtain ⟨a,u⟩:=p
  simp only [aidx] at h
  simp only [aget]
  split at h
  ·simp at h;obtain ⟨rfl,rfl⟩:=h;simp [*]
  ·rename_i hne
   obtain ⟨h1,h2,h3⟩:=ih h
   rw [if_neg hne];exact ⟨h1,by omega,by simp;omega⟩
theorem zct (m:List (α×β)) (k:α) (v:β):aget (aput m k v) k=some v:=by
 induction m with
 | nil=>simp [aput,aget]
 | cons p m ih=>obtain ⟨a,u⟩:=p;simp only [aput];split<;>simp [aget, *]
theorem zbY (m:List (α×β)) {k k':α}(v:β) (h:k'≠k):aget (aput m k v) k'=aget m k':=by
 induction m with
 | nil=>simp [aput,aget,h]
 | cons p m ih =>
  obtain ⟨a,u⟩:=p;simp only [aput];split
  ·rename_i e;subst e;simp [aget,h]
  ·simp [aget,ih]
theorem zcs {m:List (α×β)}{k:α}(v:β) (h:aget m k=none):aput m k v=m++[(k,v)]:=by
 induction m with
 | nil=>rfl
 | cons p m ih =>
  obtain ⟨a,u⟩:=p
  simp only [aget] at h
  split at h
  ·simp at h
  ·rename_i hne;simp [aput,hne,ih h]
theorem zbG {m:List (α×β)}{k:α}:(aget m k).isSome↔k∈m.map (·.1):=by
 induction m with
 | nil=>simp [aget]
 | cons p m ih=>obtain ⟨a,u⟩:=p;simp only [aget];split<;>simp [*]
theorem zaX {m:List (α×β)}{k:α}:aget m k=none↔k∉m.map (·.1):=by
 rw [←zbG];cases aget m k<;>simp
theorem aput_keys_old {m:List (α×β)}{k:α}(v:β) (h:aget m k≠none):(aput m k v).map (·.1)=m.map (·.1):=by
 induction m with
 | nil=>simp [aget] at h
 | cons p m ih =>
  obtain ⟨a,u⟩:=p
  simp only [aget] at h
  simp only [aput]
  split
  ·simp
  ·rename_i hne;rw [if_neg hne] at h;simp [ih h]
theorem zcJ {m:List (α×β)}(hn:(m.map (·.1)).Nodup) (k:α):aget (adel m k) k=none:=by
 induction m with
 | nil=>rfl
 | cons p m ih =>
  obtain ⟨a,u⟩:=p
  simp only [yaJ,yaU] at hn
  simp only [adel]
  split
  ·rename_i e;subst e;rw [zaX];exact hn.1
  ·rename_i hne;simp [aget,hne,ih hn.2]
theorem zbt {m:List (α×β)}{k k':α}(h:k'≠k):aget (adel m k) k'=aget m k':=by
 induction m with
 | nil=>rfl
 | cons p m ih =>
  obtain ⟨a,u⟩:=p
  simp only [adel]
  split
  ·rename_i e;subst e;simp [aget,h]
  ·simp [aget,ih]
theorem adel_none {m:List (α×β)}{k:α}(h:aget m k=none):adel m k=m:=by
 induction m with
 | nil=>rfl
 | cons p m ih =>
  obtain ⟨a,u⟩:=p
  simp only [aget] at h
  split at h
  ·simp at h
  ·rename_i hne;simp [adel,hne,ih h]
theorem zcu (m:List (α×β)) (k:α):List.Sublist (adel m k) m:=by
 induction m with
 | nil=>exact List.Sublist.refl _
 | cons p m ih =>
  obtain ⟨a,u⟩:=p
  simp only [adel]
  split
  ·exact List.sublist_cons_self _ _
  ·exact List.Sublist.cons_cons _ ih
theorem zaY {m:List (α×β)}{k:α}{v:β}(h:aget m k=some v):(k,v)∈m:=by
 induction m with
 | nil=>simp [aget] at h
 | cons p m ih =>
  obtain ⟨a,u⟩:=p
  simp only [aget] at h
  split at h
  ·rename_i e;simp at h;subst e;subst h;simp
  ·exact yaD _ (ih h)
theorem zeg {m:List (α×β)}(hn:(m.map (·.1)).Nodup) {k:α}{v:β}(h:(k,v)∈m):aget m k=some v:=by
 induction m with
 | nil=>simp at h
 | cons p m ih =>
  obtain ⟨a,u⟩:=p
  simp only [yaJ,yaU] at hn
  rcases yaq.1 h with e|h'
  ·simp at e;obtain ⟨rfl,rfl⟩:=e;simp [aget]
  ·have:k≠a:=fun e=>hn.1 (e▸yap.2 ⟨(k,v),h',rfl⟩)
   simp [aget,this,ih hn.2 h']
def amap (g:β→γ) (m:List (α×β)):List (α×γ):=m.map fun p=>(p.1,g p.2)
theorem zaL (g:β→γ) (m:List (α×β)) (k:α):aget (amap g m) k=(aget m k).map g:=by
 induction m with
 | nil=>rfl
 | cons p m ih=>obtain ⟨a,u⟩:=p;simp only [amap,yaJ,aget] at *;split<;>simp [*]
theorem zdo (g:β→γ) (m:List (α×β)) (k:α) (v:β):aput (amap g m) k (g v)=amap g (aput m k v):=by
 induction m with
 | nil=>rfl
 | cons p m ih=>obtain ⟨a,u⟩:=p;simp only [amap,yaJ,aput] at *;split<;>simp [*]
theorem adel_amap (g:β→γ) (m:List (α×β)) (k:α):adel (amap g m) k=amap g (adel m k):=by
 induction m with
 | nil=>rfl
 | cons p m ih=>obtain ⟨a,u⟩:=p;simp only [amap,yaJ,adel] at *;split<;>simp [*]
omit [DecidableEq α] in
theorem amap_keys (g:β→γ) (m:List (α×β)):(amap g m).map (·.1)=m.map (·.1):=by simp [amap,Function.comp_def]
structure KeyKind (P:Program) (kt:TypeId) (enc:α→Value):Prop where
 check:∀(emp:Bool) (k:α) (w:World),(Instr.checkKey emp 10000 kt (enc k)).run P w=.ok () w
 find:∀(k:α) (m:List (α×Value)) (es:List MapEntry) (w:World),es.map (fun e=>(e.key,e.val))=m.map (fun p=>(enc p.1,p.2))→(Instr.findKey kt (enc k) es).run P w=.ok (aidx m k 0) w
 same:∀k,Instr.sameBits 10000 (enc k) (enc k)=true
def MapIs (enc:α→Value) (w:World) (b:Nat) (m:List (α×Value)):Prop :=
 ∃es clock,w.heap[b]?=some (.map es clock)∧es.toList.map (fun e=>(e.key,e.val))=m.map (fun p=>(enc p.1,p.2))∧(es.toList.map (·.born)).Pairwise (·< ·)∧∀e∈es.toList,e.born<clock
variable {P:Program} {kt et t:TypeId} {enc:α→Value} {w w':World} {b:Nat} {m:List (α×Value)}
omit [DecidableEq α] in
theorem MapIs.lt (h:MapIs enc w b m):b<w.heap.size:=by
 obtain ⟨es,c,hb,_⟩:=h
 rcases Nat.lt_or_ge b w.heap.size with h|h
 ·exact h
 ·simp [Array.getElem?_eq_none h] at hb
omit [DecidableEq α] in
theorem MapIs.of_block (h:MapIs enc w b m) (hb:w'.heap[b]?=w.heap[b]?):MapIs enc w' b m:=by
 obtain ⟨es,c,hb',r⟩:=h
 exact ⟨es,c,by rw [hb];exact hb',r⟩
omit [DecidableEq α] in
theorem MapIs.chg {S:Nat→Prop}(h:MapIs enc w b m) (hc:Chg S w w') (hn:¬S b):MapIs enc w' b m:=h.of_block (hc.block b h.lt hn)
omit [DecidableEq α] in
theorem MapIs.ext (h:MapIs enc w b m) (hc:Ext w w'):MapIs enc w' b m:=h.of_block (hc.block h.lt)
omit [DecidableEq α] in
theorem MapIs.new (w:World):MapIs enc (w.alloc (.map #[] 0)) w.heap.size [] :=
 ⟨#[],0,heap_alloc_new w _,by simp,by simp,by simp⟩
theorem MapIs.lookup (h:MapIs enc w b m) (K:KeyKind P kt enc) (hu:P.underlying t=some (.map kt et)) (z:Value) (hz:(zeroValue et).run P w=.ok z w) (k:α) (c:Bool) :
 (Instr.lookup t (.map (some b)) (enc k) c).run P w=.ok (if c then .tuple #[(aget m k).getD z,.bool (aget m k).isSome] else (aget m k).getD z) w:=by
 obtain ⟨es,clock,hb,he,_⟩:=h
 have hf:=K.find k m es.toList w he
 have hc:=K.check es.isEmpty k w
 simp only [Instr.lookup]
 simp [run_underlying hu,hb,Sem.run,getObj,hc]
 rw [hf]
 cases hx:aidx m k 0 with
 | none =>
  have:=aidx_none.1 hx
  simp [this,hz]
 | some p =>
  obtain ⟨j,v⟩:=p
  obtain ⟨h1,_,_⟩:=aidx_some hx
  simp [h1]
omit [DecidableEq α] in
theorem entry_at {es:List MapEntry}{f:MapEntry→MapEntry}(hf:∀e,(f e).born=e.born) (n:Nat):(es.modify n f).map (·.born)=es.map (·.born):=by
 induction es generalizing n with
 | nil=>simp
 | cons e es ih=>cases n<;>simp [List.modify_cons,hf,ih]
theorem aidx_modify (k:α) (v:Value):∀(m:List (α×Value)) (es:List MapEntry) (i j:Nat) (u:Value),es.map (fun e=>(e.key,e.val))=m.map (fun p=>(enc p.1,p.2))→aidx m k i=some (j,u) →
 (∃e,es[j-i]?=some e∧e.key=enc k)∧(es.modify (j-i) fun e=>{ e with key:=enc k,val:=v }).map (fun e=>(e.key,e.val))=(aput m k v).map (fun p=>(enc p.1,p.2))
 | [],_,_,_,_,_,h=>by simp [aidx] at h
 | (a,x)::m,[],_,_,_,he,_=>by simp at he
 | (a,x)::m,e::es,i,j,u,he,h=>by
  simp only [yaJ,List.cons.injEq,Prod.mk.injEq] at he
  obtain ⟨⟨h1,h2⟩,h3⟩:=he
  simp only [aidx] at h
  simp only [aput]
  split at h
  ·rename_i hk
   subst hk
   simp at h
   obtain ⟨rfl,rfl⟩:=h
   simp [h1,h3]
  ·rename_i hk
   obtain ⟨_,h5,_⟩:=aidx_some h
   obtain ⟨⟨e',g1,g2⟩,g3⟩:=aidx_modify k v m es (i+1) j u h3 h
   rw [if_neg hk]
   have ej:j-i=(j-(i+1))+1:=by omega
   rw [ej]
   exact ⟨⟨e',by simpa using g1,g2⟩,by simp [List.modify_succ_cons,h1,h2,g3]⟩
theorem MapIs.update (h:MapIs enc w b m) (K:KeyKind P kt enc) (hu:P.underlying t=some (.map kt et)) (k:α) (v:Value) :
 ∃w',(Instr.mapUpdate t (.map (some b)) (enc k) v).run P w=.ok () w'∧MapIs enc w' b (aput m k v)∧Chg (·=b) w w':=by
 have hlt:=h.lt
 obtain ⟨es,clock,hb,he,hp,hbd⟩:=h
 have hf:=K.find k m es.toList w he
 have hc:=K.check false k w
 simp only [Instr.mapUpdate]
 simp [run_underlying hu,hb,Sem.run,getObj,hc]
 rw [hf]
 cases hx:aidx m k 0 with
 | none =>
  have hg:=aidx_none.1 hx
  refine ⟨zbT w b (.map (es.push { key:=enc k,val:=v,born:=clock }) (clock+1)),by simp [setObj,Sem.run,hb,zbT],⟨_,_,zcA hlt,?_,?_,?_⟩,zdC _ _ _⟩
  ·rw [zcs v hg];simp [he]
  ·simp only [Array.toList_push,yav,yaJ,List.map_nil]
   rw [List.pairwise_append]
   refine ⟨hp,by simp,?_⟩
   intro x hx y hy
   simp at hy;subst hy
   obtain ⟨e,he1,rfl⟩:=yap.1 hx
   exact hbd e he1
  ·intro e he1
   simp at he1
   rcases he1 with he1|rfl
   ·have:=hbd e (by simpa using he1);omega
   ·simp
 | some p =>
  obtain ⟨j,u⟩:=p
  obtain ⟨⟨e,g1,g2⟩,g3⟩:=aidx_modify (enc:=enc) k v m es.toList 0 j u he hx
  simp only [Nat.sub_zero] at g1 g3
  have g1':es[j]?=some e:=by simpa using g1
  refine ⟨zbT w b (.map (es.modify j fun e=>{ e with key:=enc k,val:=v }) clock),?_,⟨_,_,zcA hlt,?_,?_,?_⟩,zdC _ _ _⟩
  ·simp [Instr.keyThatStays,g1',g2,K.same k,setObj,Sem.run,hb,zbT]
  ·rw [Array.toList_modify];exact g3
  ·rw [Array.toList_modify,entry_at]
   ·exact hp
   ·intro e;rfl
  ·intro e' he'
   have hm:e'.born∈(es.modify j fun e=>{ e with key:=enc k,val:=v }).toList.map (·.born):=yap.2 ⟨e',he',rfl⟩
   rw [Array.toList_modify,entry_at (f:=fun e:MapEntry=>{ e with key:=enc k,val:=v }) (fun _=>rfl)] at hm
   obtain ⟨e2,h2,h3⟩:=yap.1 hm
   rw [←h3];exact hbd e2 h2
theorem aidx_erase (k:α):∀(m:List (α×Value)) (es:List MapEntry) (i j:Nat) (u:Value),es.map (fun e=>(e.key,e.val))=m.map (fun p=>(enc p.1,p.2))→aidx m k i=some (j,u) →
 (es.eraseIdx (j-i)).map (fun e=>(e.key,e.val))=(adel m k).map (fun p=>(enc p.1,p.2))
 | [],_,_,_,_,_,h=>by simp [aidx] at h
 | (a,x)::m,[],_,_,_,he,_=>by simp at he
 | (a,x)::m,e::es,i,j,u,he,h=>by
  simp only [yaJ,List.cons.injEq,Prod.mk.injEq] at he
  obtain ⟨⟨h1,h2⟩,h3⟩:=he
  simp only [aidx] at h
  simp only [adel]
  split at h
  ·rename_i hk
   subst hk
   simp at h
   obtain ⟨rfl,rfl⟩:=h
   simp [h3]
  ·rename_i hk
   obtain ⟨_,h5,_⟩:=aidx_some h
   have g3:=aidx_erase k m es (i+1) j u h3 h
   rw [if_neg hk]
   have ej:j-i=(j-(i+1))+1:=by omega
   rw [ej]
   simp [h1,h2,g3]
theorem MapIs.delete (h:MapIs enc w b m) (K:KeyKind P kt enc) (hu:P.underlying t=some (.map kt et)) (k:α) (t2 ty:TypeId) :
 ∃w',(Builtin.delete_ #[t,t2] ty #[.map (some b),enc k]).run P w=.ok (.tuple #[]) w'∧MapIs enc w' b (adel m k)∧Chg (·=b) w w':=by
 have hlt:=h.lt
 obtain ⟨es,clock,hb,he,hp,hbd⟩:=h
 have hf:=K.find k m es.toList w he
 have hc:=K.check es.isEmpty k w
 simp only [Builtin.delete_]
 simp [run_underlying hu,hb,Sem.run,getObj,hc]
 rw [hf]
 cases hx:aidx m k 0 with
 | none =>
  have hg:=aidx_none.1 hx
  refine ⟨zbT w b (.map es clock),by simp [setObj,Sem.run,hb,zbT],⟨_,_,zcA hlt,?_,hp,hbd⟩,zdC _ _ _⟩
  rw [adel_none hg];exact he
 | some p =>
  obtain ⟨j,u⟩:=p
  have g3:=aidx_erase (enc:=enc) k m es.toList 0 j u he hx
  simp only [Nat.sub_zero] at g3
  obtain ⟨_,_,hj⟩:=aidx_some hx
  have hjs:j<es.size:=by
   have:=congrArg List.length he
   simp at this;omega
  have el:(es.eraseIdxIfInBounds j).toList=es.toList.eraseIdx j:=by simp [Array.eraseIdxIfInBounds,hjs]
  refine ⟨zbT w b (.map (es.eraseIdxIfInBounds j) clock),by simp [setObj,Sem.run,hb,zbT],⟨_,_,zcA hlt,by rw [el];exact g3,?_,?_⟩,zdC _ _ _⟩
  ·rw [el]
   exact hp.sublist ((List.eraseIdx_sublist _ _).map _)
  ·intro e he'
   rw [el] at he'
   exact hbd e ((List.eraseIdx_sublist _ _).subset he')
omit [DecidableEq α] in
theorem MapIs.run_len (h:MapIs enc w b m) (hu:P.underlying t=some (.map kt et)) (ty:TypeId):(Builtin.len_ #[t] ty #[.map (some b)]).run P w=.ok (.int .i64 m.length) w:=by
 obtain ⟨es,clock,hb,he,_⟩:=h
 have hl:es.size=m.length:=by have:=congrArg List.length he;simpa using this
 simp [Builtin.len_,run_underlying hu,MapKept.run_getObj_map hb,goInt,Result.andThen,hl]
omit [DecidableEq α] in
end
theorem zdm (a b:ByteArray):(a==b)=decide (a=b):=by
 rw [beq_toListBytes,Bool.eq_iff_iff]
 simp only [beq_iff_eq,yaL]
 constructor
 ·intro h
  have h1:a.data.toList=b.data.toList:=by simpa [ByteArray.toList_eq] using h
  exact ByteArray.ext (Array.toList_inj.1 h1)
 ·rintro rfl;rfl
instance bytes_lawful:LawfulBEq ByteArray :=
 { eq_of_beq:=fun {a b} h=>by rw [zdm] at h;simpa using h
   rfl:=fun {a}=>by rw [zdm];simp }
theorem string_find (k:ByteArray):∀(m:List (ByteArray×Value)) (es:List MapEntry) (i:Nat),es.map (fun e=>(e.key,e.val))=m.map (fun p=>(Value.string p.1,p.2))→Instr.findNow .string (.string k) es i=some (aidx m k i):=by
 intro m
 induction m with
 | nil=>intro es i h;simp at h;subst h;rfl
 | cons p m ih =>
  obtain ⟨a,v⟩:=p
  intro es i h
  cases es with
  | nil=>simp at h
  | cons e es =>
   simp only [yaJ,List.cons.injEq,Prod.mk.injEq] at h
   obtain ⟨⟨h1,h2⟩,h3⟩:=h
   simp only [Instr.findNow,h1,Instr.sameNow,aidx]
   by_cases hk:k=a
   ·subst hk;simp [h2,zdm]
   ·simp [zdm,hk,ih es (i+1) h3]
theorem zaz {P:Program}{kt:TypeId}(hu:P.underlying kt=some .string):KeyKind P kt (fun s:ByteArray=>Value.string s) :=
 ⟨fun emp k w=>MapKept.run_checkKey hu (by simp [MapKept.IsKey]) emp 9999,
  fun k m es w he=>by simp only [Instr.findKey];simp [run_underlying hu,string_find k m es 0 he],
  fun k=>by simp [Instr.sameBits,zdm]⟩
end Go.Proofs.YtlmfhjipbjkcbaaGreatDoor
