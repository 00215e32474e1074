/- x -/
import Derived.Test.YtlmfhjipbjkcbaaGreatDoorSch
import Derived.Test.YtlmfhjipbjkcbaaGreatDoorProg
import Derived.WalkKit
set_option linter.unusedSimpArgs false
set_option linter.unusedVariables false
namespace Go.Proofs.YtlmfhjipbjkcbaaGreatDoor
section
open Go.RowKit Go.Sort
structure FileS where
 bytes:List UInt8
 lasts:Nat
 synced:Bool
structure FileX where
 fb:Nat
 v:Value
 f:FileS
def FileX.blocks (x:FileX):List Nat:=x.fb::x.v.ownBlock.toList
def ptrs (E:List (ByteArray×FileX)):List (ByteArray×Value):=amap (fun x=>.pointer (some ⟨x.fb,0,none⟩)) E
def foot (d mb:Nat) (E:List (ByteArray×FileX)):List Nat:=d::mb::E.flatMap fun p=>p.2.blocks
structure FileAt (w:World) (x:FileX):Prop where
 head:w.heap[x.fb]?=some (.cells #[x.v,.int .i64 (x.f.lasts:Int),.bool x.f.synced] 118 (0,0))
 row:Row w 5 1 x.v x.f.bytes.length (u8s x.f.bytes)
structure DiskRep (w:World) (d mb:Nat) (E:List (ByteArray×FileX)) (room used left ops:Int):Prop where
 head:w.heap[d]?=some (.cells #[.map (some mb),.int .i64 room,.int .i64 used,.int .i64 left,.int .i64 ops] 94 (0,0))
 map:MapIs (fun s:ByteArray=>Value.string s) w mb (ptrs E)
 files:∀p∈E,FileAt w p.2
 apart:(foot d mb E).Nodup
 names:(E.map (·.1)).Nodup
theorem FileAt.chg {S:Nat→Prop}{w w':World}{x:FileX}(h:FileAt w x) (hc:Chg S w w') (hn:∀b∈x.blocks,¬S b):FileAt w' x:=by
 refine ⟨?_,h.row.chg hc (fun g hg=>hn g (by simp [FileX.blocks,hg]))⟩
 rw [hc.block _ (zab h.head) (hn _ (by simp [FileX.blocks]))];exact h.head
theorem DiskRep.chg {S:Nat→Prop}{w w':World}{d mb:Nat}{E:List (ByteArray×FileX)}{room used left ops:Int}(h:DiskRep w d mb E room used left ops) (hc:Chg S w w') (hn:∀b∈foot d mb E,¬S b):DiskRep w' d mb E room used left ops:=by
 refine ⟨?_,h.map.chg hc (hn mb (by simp [foot])),fun p hp=>(h.files p hp).chg hc (fun b hb=>hn b ?_),h.apart,h.names⟩
 ·rw [hc.block _ (zab h.head) (hn d (by simp [foot]))];exact h.head
 ·simp only [foot,yaq,List.mem_flatMap];exact .inr (.inr ⟨p,hp,hb⟩)
theorem DiskRep.ext {w w':World}{d mb:Nat}{E:List (ByteArray×FileX)}{room used left ops:Int}(h:DiskRep w d mb E room used left ops) (hc:Ext w w'):DiskRep w' d mb E room used left ops :=
 h.chg (Chg.of_ext (S:=fun _=>False) hc) (fun _ _=>id)
theorem DiskRep.foot_lt {w:World}{d mb:Nat}{E:List (ByteArray×FileX)}{room used left ops:Int}(h:DiskRep w d mb E room used left ops):∀b∈foot d mb E,b<w.heap.size:=by
 intro b hb
 simp only [foot,yaq,List.mem_flatMap] at hb
 rcases hb with rfl|rfl|⟨p,hp,hb⟩
 ·exact zab h.head
 ·exact h.map.lt
 ·have hf:=h.files p hp
  simp only [FileX.blocks,yaq,Option.mem_toList] at hb
  rcases hb with rfl|hb
  ·exact zab hf.head
  ·exact hf.row.lt hb
theorem info_u8:(Tryz.prog.info? 5).map (fun i=>(i.zero,i.size,i.bytes))=some (some (.int .u8 0),1,1):=by kernel_rfl
theorem zbs {α β:Type} [DecidableEq α] {E:List (α×β)}{k:α}{x:β}(h:aget E k=some x) :
 ∃E1 E2,E=E1++(k,x)::E2∧(∀x',aput E k x'=E1++(k,x')::E2)∧adel E k=E1++E2:=by
 induction E with
 | nil=>simp [aget] at h
 | cons p E ih =>
  obtain ⟨a,u⟩:=p
  simp only [aget] at h
  split at h
  ·rename_i e
   simp at h;subst h;subst e
   exact ⟨[],E,rfl,fun x'=>by simp [aput],by simp [adel]⟩
  ·rename_i hne
   obtain ⟨E1,E2,h1,h2,h3⟩:=ih h
   exact ⟨(a,u)::E1,E2,by rw [h1];rfl,fun x'=>by simp [aput,hne,h2],by simp [adel,hne,h3]⟩
def fs (E:List (ByteArray×FileX)):List (ByteArray×FileS):=amap (·.f) E
def footR (d mb:Nat) (E1 E2:List (ByteArray×FileX)):List Nat:=d::mb::(E1++E2).flatMap fun p=>p.2.blocks
theorem zcm (d mb:Nat) (E1 E2:List (ByteArray×FileX)) (k:ByteArray) (x:FileX):List.Perm (foot d mb (E1++(k,x)::E2)) (x.blocks++footR d mb E1 E2):=by
 simp only [foot,footR,List.flatMap_append,List.flatMap_cons]
 generalize E1.flatMap (fun p=>p.2.blocks)=l1
 generalize E2.flatMap (fun p=>p.2.blocks)=l2
 have h1:List.Perm (l1++(x.blocks++l2)) (x.blocks++(l1++l2)):=by
  rw [←yaj,←yaj]
  exact List.Perm.append_right _ List.perm_append_comm
 refine (List.Perm.cons d (List.Perm.cons mb h1)).trans ?_
 refine (List.Perm.cons d List.perm_middle.symm).trans ?_
 exact List.perm_middle.symm
theorem zcS {x:FileX}:x.blocks.Nodup↔x.v.ownBlock≠some x.fb:=by
 unfold FileX.blocks
 cases x.v.ownBlock with
 | none=>simp
 | some g=>simp;exact ⟨fun h e=>h e.symm,fun h e=>h e.symm⟩
theorem DiskRep.rest {w:World}{d mb:Nat}{E1 E2:List (ByteArray×FileX)}{k:ByteArray}{x:FileX}{room used left ops:Int}(h:DiskRep w d mb (E1++(k,x)::E2) room used left ops) :
 (∀p∈E1++E2,FileAt w p.2)∧(footR d mb E1 E2).Nodup∧x.blocks.Nodup∧(∀b∈x.blocks,b∉footR d mb E1 E2):=by
 have hn:=(zcm d mb E1 E2 k x).nodup_iff.1 h.apart
 rw [List.nodup_append] at hn
 refine ⟨fun p hp=>h.files p ?_,hn.2.1,hn.1,fun b hb hb'=>hn.2.2 b hb b hb' rfl⟩
 rcases yah.1 hp with hp|hp
 ·exact yat _ hp
 ·exact yaR _ (yaD _ hp)
theorem ptrs_same (E1 E2:List (ByteArray×FileX)) (k:ByteArray) {x x':FileX}(h:x'.fb=x.fb):ptrs (E1++(k,x')::E2)=ptrs (E1++(k,x)::E2):=by
 simp [ptrs,amap,h]
theorem DiskRep.turn {w w':World}{d mb:Nat}{E:List (ByteArray×FileX)}{name:ByteArray}{x x':FileX}{room used left ops room' used' left' ops':Int}{S:Nat→Prop}(h:DiskRep w d mb E room used left ops) (hx:aget E name=some x)
 (hc:Chg S w w') (hS:∀b,S b→b=d∨b∈x.blocks)
 (hd:w'.heap[d]?=some (.cells #[.map (some mb),.int .i64 room',.int .i64 used',.int .i64 left',.int .i64 ops'] 94 (0,0)))
 (hf:FileAt w' x') (hb:x'.fb=x.fb) (hv:x'.v.ownBlock=x.v.ownBlock∨∃g,x'.v.ownBlock=some g∧w.heap.size≤g) :
 DiskRep w' d mb (aput E name x') room' used' left' ops'∧∀b∈foot d mb (aput E name x'),b∈foot d mb E∨w.heap.size≤b:=by
 have hlt:=h.foot_lt
 obtain ⟨E1,E2,rfl,hput,_⟩:=zbs hx
 rw [hput]
 obtain ⟨r1,r2,r3,r4⟩:=h.rest
 have hmem:∀b,b∈foot d mb (E1++(name,x)::E2)↔b∈x.blocks∨b∈footR d mb E1 E2:=fun b=>by rw [(zcm d mb E1 E2 name x).mem_iff,yah]
 have hmem':∀b,b∈foot d mb (E1++(name,x')::E2)↔b∈x'.blocks∨b∈footR d mb E1 E2:=fun b=>by rw [(zcm d mb E1 E2 name x').mem_iff,yah]
 have hmb:mb∈footR d mb E1 E2:=by simp [footR]
 have hdR:d∈footR d mb E1 E2:=by simp [footR]
 have hdmb:mb≠d:=by
  intro e;subst e
  simp [footR] at r2
 have hrest:∀b∈footR d mb E1 E2,b≠d→¬S b:=fun b hb' hne hs=>by
  rcases hS b hs with e|e
  ·exact hne e
  ·exact r4 b e hb'
 have hx'b:∀b∈x'.blocks,b∈x.blocks∨w.heap.size≤b:=by
  intro b hb'
  simp only [FileX.blocks,yaq,Option.mem_toList] at hb' ⊢
  rcases hb' with e|e
  ·exact .inl (.inl (e.trans hb))
  ·rcases hv with hv|⟨g,hg,hle⟩
   ·exact .inl (.inr (hv▸e))
   ·rw [hg] at e;simp at e;subst e;exact .inr hle
 refine ⟨⟨hd,?_,?_,?_,?_⟩,?_⟩
 ·rw [ptrs_same E1 E2 name hb];exact h.map.chg hc (hrest mb hmb hdmb)
 ·intro p hp
  rcases yah.1 hp with hp|hp
  ·refine (r1 p (yat _ hp)).chg hc (fun b hb'=>hrest b ?_ ?_)
   ·simp only [footR,yaq,List.mem_flatMap];exact .inr (.inr ⟨p,yat _ hp,hb'⟩)
   ·intro e;subst e
    simp only [footR,yaU,yaq,not_or] at r2
    exact r2.1.2 (List.mem_flatMap.2 ⟨p,yat _ hp,hb'⟩)
  ·rcases yaq.1 hp with rfl|hp
   ·exact hf
   ·refine (r1 p (yaR _ hp)).chg hc (fun b hb'=>hrest b ?_ ?_)
    ·simp only [footR,yaq,List.mem_flatMap];exact .inr (.inr ⟨p,yaR _ hp,hb'⟩)
    ·intro e;subst e
     simp only [footR,yaU,yaq,not_or] at r2
     exact r2.1.2 (List.mem_flatMap.2 ⟨p,yaR _ hp,hb'⟩)
 ·refine (zcm d mb E1 E2 name x').nodup_iff.2 ?_
  rw [List.nodup_append]
  refine ⟨?_,r2,?_⟩
  ·rw [zcS]
   rcases hv with hv|⟨g,hg,hle⟩
   ·rw [hv,hb];exact zcS.1 r3
   ·rw [hg,hb];intro e;simp at e
    have:=hlt x.fb ((hmem _).2 (.inl (by simp [FileX.blocks])))
    omega
  ·intro b hb' c hc' e
   subst e
   rcases hx'b b hb' with h1|h1
   ·exact r4 b h1 hc'
   ·have:=hlt b ((hmem _).2 (.inr hc'))
    omega
 ·have:=h.names
  simpa using this
 ·intro b hb'
  rcases (hmem' b).1 hb' with h1|h1
  ·exact (hx'b b h1).imp (fun h=>(hmem b).2 (.inl h)) id
  ·exact .inl ((hmem b).2 (.inr h1))
theorem DiskRep.add {w w':World}{d mb:Nat}{E:List (ByteArray×FileX)}{name:ByteArray}{x':FileX}{room used left ops room' used' left' ops':Int}{S:Nat→Prop}(h:DiskRep w d mb E room used left ops) (hx:aget E name=none)
 (hc:Chg S w w') (hS:∀b,S b→b=d∨b=mb)
 (hd:w'.heap[d]?=some (.cells #[.map (some mb),.int .i64 room',.int .i64 used',.int .i64 left',.int .i64 ops'] 94 (0,0)))
 (hm:MapIs (fun s:ByteArray=>Value.string s) w' mb (aput (ptrs E) name (.pointer (some ⟨x'.fb,0,none⟩))))
 (hf:FileAt w' x') (hnew:∀b∈x'.blocks,w.heap.size≤b) (hnd:x'.v.ownBlock≠some x'.fb) :
 DiskRep w' d mb (aput E name x') room' used' left' ops'∧∀b∈foot d mb (aput E name x'),b∈foot d mb E∨w.heap.size≤b:=by
 have hlt:=h.foot_lt
 have hap:=h.apart
 have hput:=zcs x' hx
 rw [hput]
 have hmem:∀b,b∈foot d mb (E++[(name,x')])↔b∈foot d mb E∨b∈x'.blocks:=fun b=>by simp [foot,or_assoc]
 refine ⟨⟨hd,?_,?_,?_,?_⟩,?_⟩
 ·have e:ptrs (E++[(name,x')])=aput (ptrs E) name (.pointer (some ⟨x'.fb,0,none⟩)):=by
   rw [←hput];exact (zdo (fun x:FileX=>Value.pointer (some ⟨x.fb,0,none⟩)) E name x').symm
  rw [e];exact hm
 ·intro p hp
  rcases yah.1 hp with hp|hp
  ·refine (h.files p hp).chg hc (fun b hb hs=>?_)
   have hb':b∈E.flatMap fun p=>p.2.blocks:=List.mem_flatMap.2 ⟨p,hp,hb⟩
   simp only [foot,yaU,yaq,not_or] at hap
   rcases hS b hs with e|e
   ·subst e;exact hap.1.2 hb'
   ·subst e;exact hap.2.1 hb'
  ·simp at hp;subst hp;exact hf
 ·have e:foot d mb (E++[(name,x')])=foot d mb E++x'.blocks:=by simp [foot]
  rw [e,List.nodup_append]
  refine ⟨hap,zcS.2 hnd,fun a ha b hb e=>?_⟩
  subst e
  have:=hlt a ha
  have:=hnew a hb
  omega
 ·rw [yav,List.nodup_append]
  refine ⟨h.names,by simp,fun a ha b hb e=>?_⟩
  simp at hb;subst hb;subst e
  exact (zaX.1 hx) ha
 ·intro b hb
  rcases (hmem b).1 hb with h1|h1
  ·exact .inl h1
  ·exact .inr (hnew b h1)
end
section
open Go.RowKit Go.Sort
def zeros (n:Nat):List UInt8:=List.replicate n 0
theorem make_bytes (w:World) (n:Nat) (hn:n≤140737488355328) :
 ∃w',(Instr.makeSlice 51 (.int .i64 (n:Int)) (.int .i64 (n:Int))).run Tryz.prog w=.ok (.slice (some ⟨w.heap.size,0,none⟩) n n) w' ∧
  Row w' 5 1 (.slice (some ⟨w.heap.size,0,none⟩) n n) n (u8s (zeros n))∧Ext w w':=by
 obtain ⟨i0,hi,hz0,hz1,hz2⟩:=info_parts info_u8
 obtain ⟨w',h1,h2,h3⟩:=run_make_full (P:=Tryz.prog) w 0 51 5 i0 (.int .u8 0) 1 Tryz.underlying51 hi hz0 hz1 .i64 .i64 n (by rw [hz2];omega) (by unfold maxLen;omega) (Nat.zero_le _)
 refine ⟨w',h1,?_,(Chg.of_grown h3).ext (fun _ _ e=>by simp at e)⟩
 have e:(madeCells (Value.int .u8 0).cells (n*1)).toList=u8s (zeros n):=by
  simp only [madeCells,u8s,zeros,Value.cells]
  apply List.ext_getElem
  ·simp
  ·intro j h1 h2
   simp [Nat.mod_one]
 rw [←e];exact h2
theorem zcg {P:Program}{w:World}{ops:Array Oper}{rest:List Oper}{o:Oper}{a:Act}{Q:Exit→Act→World→Prop}(hgd:Region.wanted o (yielded ops a.tmps)=true) (t:TypeId) (l c:Operand)
 (ho:o.op=.makeSlice t l c) (lv cv v:Value) (w':World) (hl:a.eval l=lv) (hc:a.eval c=cv)
 (hr:(Instr.makeSlice t lv cv).run P w=.ok v w') (h:wpList P ops Q rest (a.put o.dst v) w') :
 wpList P ops Q (o::rest) a w:=by
 refine wpList_step fun K hK=>?_
 rw [if_pos hgd]
 unfold Oper.wp execOp
 simp only [ho,hl,hc,Sem.run_bind,hr,Result.andThen_ok,Sem.run_pure]
 exact hK _ _ h
end
end Go.Proofs.YtlmfhjipbjkcbaaGreatDoor
