/- x -/
import Derived.Test.YtlmfhjipbjkcbaaGreatDoorDiskR
import Derived.Test.YtlmfhjipbjkcbaaGreatDoorStm
import Derived.Test.YtlmfhjipbjkcbaaGreatDoorSrc
import Derived.Test.YtlmfhjipbjkcbaaGreatDoorRng
set_option maxHeartbeats 4000000
set_option maxRecDepth 100000
set_option linter.unusedSimpArgs false
set_option linter.unusedVariables false
namespace Go.Proofs.YtlmfhjipbjkcbaaGreatDoor
section
open Go.RowKit Go.Sort Go.Lib
def DiskS.names (S:DiskS) (p:ByteArray):List ByteArray:=(S.files.map (·.1)).filter fun s=>Lib.hasPrefix (bl s) (bl p)
def DiskS.list (S:DiskS) (p:ByteArray):List ByteArray:=sortS (S.names p)
structure ListR (w:World) (d mb r:Nat) (E:List (ByteArray×FileX)) (room used left ops:Int) (p:ByteArray) (rest:List (ByteArray×Value)) (L:List ByteArray) (v:Value) (wr:World):Prop where
 iter:Iter (fun s:ByteArray=>Value.string s) wr mb r (ptrs E) rest
 to:StrsTo w L v wr
 perm:(L++(rest.map (·.1)).filter fun s=>Lib.hasPrefix (bl s) (bl p)).Perm ((E.map (·.1)).filter fun s=>Lib.hasPrefix (bl s) (bl p))
 new:w.heap.size≤r
 ne:mb<w.heap.size
 own:∀g,v.ownBlock=some g→g≠r
theorem ptrs_keys (E:List (ByteArray×FileX)):(ptrs E).map (·.1)=E.map (·.1):=amap_keys _ _
theorem perm_yes {L:List ByteArray}{l1 l2:List (ByteArray×Value)}{s:ByteArray}{v:Value}{M:List ByteArray}{P:ByteArray→Bool}(hp:P s=true) (h:(L++((l1++(s,v)::l2).map (·.1)).filter P).Perm M):((L++[s])++((l1++l2).map (·.1)).filter P).Perm M:=by
 refine List.Perm.trans ?_ h
 simp only [yav,yaJ,yaW,List.filter_cons,hp,if_true,yaj,List.singleton_append]
 exact List.Perm.append_left _ List.perm_middle.symm
theorem perm_no {L:List ByteArray}{l1 l2:List (ByteArray×Value)}{s:ByteArray}{v:Value}{M:List ByteArray}{P:ByteArray→Bool}(hp:P s=false) (h:(L++((l1++(s,v)::l2).map (·.1)).filter P).Perm M):(L++((l1++l2).map (·.1)).filter P).Perm M:=by
 refine List.Perm.trans ?_ h
 simp [hp]
theorem StrsTo.snoc {w w1 w2 w3:World}{L:List ByteArray}{s:ByteArray}{v v':Value}{n:Nat}(h:StrsTo w L v w1) (hx:Ext w1 w2) (ha:Appended w2 9 1 v n (strs L++strs [s]) v' w3) (hn:n=L.length+1):StrsTo w (L++[s]) v' w3:=by
 subst hn
 refine ⟨?_,fun g hg=>?_,Chg.ext ((Chg.of_ext (h.ext.trans hx)).trans ha.chg (fun _ _ e=>e)) (fun i hi e=>by have:=h.own i e;omega)⟩
 ·have:=ha.row
  rw [show strs (L++[s])=strs L++strs [s] by simp [strs],yae]
  exact this
 ·rcases ha.loc with e|e
  ·rw [e] at hg;exact h.own g hg
  ·rw [e] at hg;have:=h.ext.size;have:=hx.size;simp at hg;omega
theorem disk_list {w:World}{d:Nat}{S:DiskS}{B:List Nat}(ok:S.Ok) (h:zbj w d S B) (p:ByteArray) :
 Calls Tryz.prog 13 #[.pointer (some ⟨d,0,none⟩),.string p] w fun e w'=>∃v,e=.returned v∧StrsTo w (S.list p) v w':=by
 obtain ⟨mb,E,h,hfs,rfl⟩:=h
 have c0:w.cell? ⟨d,0,none⟩=some (.map (some mb)):=by rw [zaa h.head];rfl
 obtain ⟨it,hrg,hit⟩:=zdF (P:=Tryz.prog) h.map Tryz.underlying92
 have hnm:E.map (·.1)=S.files.map (·.1):=by rw [←hfs,fs,amap_keys]
 have HL:Hid (S.list p=sortS ((E.map (·.1)).filter fun s=>Lib.hasPrefix (bl s) (bl p))∧E.length≤512):=hid ⟨by rw [DiskS.list,DiskS.names,hnm],by
  have:=congrArg List.length hnm
  have h2:=ok.few
  simp at this;omega⟩
 obtain ⟨r,hr⟩:∃r,r=w.heap.size:=⟨_,rfl⟩
 have HR:Hid (ListR w d mb r E S.room S.used S.left S.ops p (ptrs E) [] (.slice none 0 0) (w.alloc it)):=hid (by
  subst hr
  exact ⟨hit,⟨Row.nil _ _ _,fun g hg=>by simp [Value.ownBlock] at hg,(Ext.refl w).alloc _⟩,by rw [ptrs_keys];simp,Nat.le_refl _,h.map.lt,fun g hg=>by simp [Value.ownBlock] at hg⟩)
 rw [←hr] at hrg
 clear h hfs hit hnm hr
 go_enter Tryz.func13,Tryz.ntmps13
 go_wp2_with (go_at_call 40;refine (zdk c0).mono ?_;rintro e w' ⟨rfl,rfl⟩)
 clear c0 hrg
 go_loopw [5] (fun v wr=>∃rest L va vc,v=.slice va (List.length L) vc∧Hid (ListR w d mb r E S.room S.used S.left S.ops p rest L v wr)) (fun _ wr=>zbD wr mb r)
 case atStart=>exact ⟨_,[],none,0,rfl,HR⟩
 case round =>
  clear HR
  obtain ⟨rest,L,va,vc,rfl,HR⟩:=hrel
  have hLl:L.length≤512:=by
   have h1:=HR.out.perm.length_eq
   have h2:=List.length_filter_le (fun s=>Lib.hasPrefix (bl s) (bl p)) (E.map (·.1))
   have h3:=HL.out.2
   simp at h1 h2;omega
  rcases iter_next (P:=Tryz.prog) HR.out.iter with ⟨rfl,hnx⟩|⟨l1,s,pv,l2,w2,hl,hnx,hen,hi,hch,hsz⟩
  ·go_wp2_with fail
   refine (sort_any HR.out.to.row (by omega)).mono ?_
   rintro e w2 ⟨rfl,hrow,hc⟩
   have HRow:=hid hrow
   have HC:=hid hc
   clear hrow hc
   go_wp2_with fail
   go_ret
   have e1:sortS L=S.list p:=by
    rw [HL.out.1]
    exact zdW ((zbw L).trans ((by simpa using HR.out.perm:L.Perm _).trans (zbw _).symm)) (zcL _) (zcL _)
   refine ⟨_,rfl,?_,HR.out.to.own,((Chg.of_ext (S:=fun k=>(Value.slice va L.length vc).ownBlock=some k) HR.out.to.ext).trans HC.out (fun _ _ e=>e)).ext (fun i hi e=>by have:=HR.out.to.own i e;omega)⟩
   rw [←e1,zcM];exact HRow.out
  ·have hx2:Ext w w2:=((Chg.of_ext (S:=(·=r)) HR.out.to.ext).trans hch (fun _ _ e=>e)).ext (fun i hi e=>by have:=HR.out.new;omega)
   have hto2:StrsTo w L (.slice va L.length vc) w2:=⟨HR.out.to.row.chg hch (fun g hg=>HR.out.own g hg),HR.out.to.own,hx2⟩
   have HT2:=hid hto2
   have hil:=hi.lt
   have hcnt:=HR.out.iter.count
   have HCN:Hid (zbD wr mb r=l1.length+l2.length+1):=hid (by rw [hcnt,hl,yae,List.length_cons];omega)
   have HI:=hid hi
   have HCH:=hid hch
   have hrlt:=hil.1
   have HRL:=hid hrlt
   have HK:=hid (⟨HR.out.perm,HR.out.new,HR.out.ne,HR.out.own⟩:_∧_∧_∧_)
   have HLR:=hid hl
   clear hl hx2 hto2 hil hcnt hi hch hsz hrlt
   go_wp2_with fail
   refine (Tryz.strings_HasPrefix s p w2).mono ?_
   rintro e w3 ⟨rfl,hw3⟩
   have HW3:=hid hw3
   cases hp:Lib.hasPrefix (bl s) (bl p)
   ·have h0:=HK.out.1
    rw [HLR.out] at h0
    have HP:=hid (perm_no hp h0)
    clear h0
    rw [show Lib.hasPrefix s.data.toList p.data.toList=false from hp]
    subst hw3
    clear hp HW3
    go_wp2_with fail
    go_roundw
    case rel=>exact ⟨l1++l2,L,va,vc,rfl,hid ⟨HI.out,HT2.out,HP.out,HK.out.2.1,HK.out.2.2.1,HK.out.2.2.2⟩⟩
    case measure=>have h1:=HCN.out;have h2:=HI.out.count;rw [yae] at h2;omega
   ·have h0:=HK.out.1
    rw [HLR.out] at h0
    have HP:=hid (perm_yes hp h0)
    clear h0
    rw [show Lib.hasPrefix s.data.toList p.data.toList=true from hp]
    subst hw3
    clear hp HW3
    go_wp2_with (at_builtin;go_must (refine zah (n:=L.length) (m:=1) elem_str rfl _ _ rfl (v:=.slice _ _ _) rfl rfl (HT2.out.row.alloc _) (src_str' (heap_alloc_new _ _)) (by unfold maxLen;omega) (by omega) ?_;intro v2 w4 happ);have K:=hid (HT2.out.snoc ((Ext.refl _).alloc _) happ rfl);have HCH4:=hid happ.chg;obtain ⟨va2,vc2,rfl⟩:=happ.row.shape;have HLOC:=hid happ.loc;clear happ)
    have HI4:=hid ((HI.out.ext ((Ext.refl _).alloc (.cells #[.string s] 9 (0,0)))).chg HCH4.out (fun e=>by have h1:=HT2.out.own mb e;have h2:=HK.out.2.2.1;omega) (fun e=>HK.out.2.2.2 r e rfl))
    go_roundw
    case rel=>exact ⟨l1++l2,L++[s],va2,vc2,by simp,hid ⟨HI4.out,K.out,HP.out,HK.out.2.1,HK.out.2.2.1,fun g hg=>by
     rcases HLOC.out with e|e
     ·rw [e] at hg;exact HK.out.2.2.2 g hg
     ·rw [e] at hg;have:=HRL.out;simp at hg;omega⟩⟩
    case measure=>have h1:=HCN.out;have h2:=HI4.out.count;rw [yae] at h2;omega
end
section
open Go.RowKit Go.Sort Go.Lib
def keepN (keep:List Int) (i:Nat) (f:FileS):Nat :=
 f.lasts+(max 0 (min (keep.getD i 0) (f.bytes.length-f.lasts:Nat)):Int).toNat
theorem keepN_le (keep:List Int) (i:Nat) {f:FileS}(h:f.lasts≤f.bytes.length):keepN keep i f≤f.bytes.length:=by unfold keepN;omega
def keepF (keep:List Int) (i:Nat) (f:FileS):Option FileS :=
 if 0<keepN keep i f∨f.synced=true then some ⟨f.bytes.take (keepN keep i f),keepN keep i f,true⟩ else none
def zeroF:FileS:=⟨[],0,false⟩
def found (s:ByteArray):Option FileS→List (ByteArray×FileS)
 | none=>[]
 | some f=>[(s,f)]
def crashStep (S:DiskS) (keep:List Int) (k:Nat):List (ByteArray×FileS):=match (S.list ⟨#[]⟩)[k]? with
 | none=>[]
 | some s=>found s (keepF keep k ((aget S.files s).getD zeroF))
def zaN (S:DiskS) (keep:List Int):Nat→List (ByteArray×FileS)
 | 0=>[]
 | k+1=>zaN S keep k++crashStep S keep k
def sumF (l:List (ByteArray×FileS)):Nat:=(l.map fun p=>p.2.bytes.length).sum
def crashS (S:DiskS) (keep:List Int) (k:Nat):DiskS:=⟨zaN S keep k,S.room,sumF (zaN S keep k),-1,0⟩
def DiskS.crash (S:DiskS) (keep:List Int):DiskS:=crashS S keep (S.list ⟨#[]⟩).length
theorem sumF_append (a b:List (ByteArray×FileS)):sumF (a++b)=sumF a+sumF b:=by simp [sumF]
theorem zcW (S:DiskS) (keep:List Int):∀k,List.Sublist ((zaN S keep k).map (·.1)) ((S.list ⟨#[]⟩).take k)
 | 0=>by simp [zaN]
 | k+1=>by
  have ih:=zcW S keep k
  rw [yao,zaN,yav]
  refine ih.append ?_
  unfold crashStep
  cases (S.list ⟨#[]⟩)[k]? with
  | none=>simp
  | some s =>
   cases h:keepF keep k ((aget S.files s).getD zeroF) with
   | none=>simp [h,found]
   | some f=>simp [h,found]
theorem names_all (S:DiskS):S.names ⟨#[]⟩=S.files.map (·.1):=by
 unfold DiskS.names
 exact List.filter_eq_self.2 (fun s _=>by simp [bl,Lib.hasPrefix])
theorem list_nodup {S:DiskS}(ok:S.Ok):(S.list ⟨#[]⟩).Nodup:=by
 unfold DiskS.list
 rw [names_all]
 exact (zbw _).symm.nodup ok.names
theorem list_len {S:DiskS}(ok:S.Ok):(S.list ⟨#[]⟩).length≤512:=by
 unfold DiskS.list
 rw [names_all,zcM,yaw]
 exact ok.few
theorem list_mem {S:DiskS}{k:Nat}{s:ByteArray}(h:(S.list ⟨#[]⟩)[k]?=some s):∃f,aget S.files s=some f:=by
 have hm:s∈S.files.map (·.1):=by
  rw [←names_all]
  exact (zbw _).subset (yag h)
 have:=(zbG (m:=S.files) (k:=s)).2 hm
 exact Option.isSome_iff_exists.1 this
theorem crashTo_new {S:DiskS}(ok:S.Ok) (keep:List Int) {k:Nat}{s:ByteArray}(h:(S.list ⟨#[]⟩)[k]?=some s):aget (zaN S keep k) s=none:=by
 rw [zaX]
 intro hm
 have h1:=(zcW S keep k).subset hm
 obtain ⟨i,hi⟩:=List.getElem?_of_mem h1
 rw [yaT] at hi
 split at hi
 ·rename_i hik
  obtain ⟨hl1,e1⟩:=yad.1 hi
  obtain ⟨hl2,e2⟩:=yad.1 h
  have h3:=list_nodup ok
  rw [List.nodup_iff_pairwise_ne,List.pairwise_iff_getElem] at h3
  exact h3 i k hl1 hl2 hik (e1.trans e2.symm)
 ·cases hi
theorem zee {S:DiskS}(ok:S.Ok) (keep:List Int):∀k,∀p∈zaN S keep k,p.2.bytes.length≤1048576∧p.2.lasts≤p.2.bytes.length
 | 0=>by simp [zaN]
 | k+1=>by
  intro p hp
  rw [zaN] at hp
  rcases yah.1 hp with hp|hp
  ·exact zee ok keep k p hp
  ·unfold crashStep at hp
   cases hs:(S.list ⟨#[]⟩)[k]? with
   | none=>rw [hs] at hp;simp at hp
   | some s =>
    rw [hs] at hp
    obtain ⟨f,hf⟩:=list_mem hs
    simp only [hf,Option.getD_some] at hp
    have h1:=ok.small _ (zaY hf)
    have h2:=keepN_le keep k (ok.lasts _ (zaY hf))
    simp only at h1 h2
    unfold keepF at hp
    split at hp
    ·simp [found] at hp
     subst hp
     simp;omega
    ·simp [found] at hp
theorem crashTo_sum {S:DiskS}(ok:S.Ok) (keep:List Int):∀k,sumF (zaN S keep k)≤k*1048576
 | 0=>by simp [zaN,sumF]
 | k+1=>by
  have ih:=crashTo_sum ok keep k
  have hs:=zee ok keep (k+1)
  rw [zaN] at hs ⊢
  rw [sumF_append]
  suffices h:∀l:List (ByteArray×FileS),(∀p∈l,p.2.bytes.length≤1048576)→l.length≤1→sumF l≤1048576 by
   have:=h (crashStep S keep k) (fun p hp=>(hs p (yaR _ hp)).1) (by
    unfold crashStep
    cases (S.list ⟨#[]⟩)[k]? with
    | none=>simp
    | some s=>cases h:keepF keep k ((aget S.files s).getD zeroF)<;>simp [h,found])
   omega
  intro l h1 h2
  match l,h2 with
  | [],_=>simp [sumF]
  | [p],_=>have:=h1 p (by simp);simpa [sumF] using this
end
end Go.Proofs.YtlmfhjipbjkcbaaGreatDoor
