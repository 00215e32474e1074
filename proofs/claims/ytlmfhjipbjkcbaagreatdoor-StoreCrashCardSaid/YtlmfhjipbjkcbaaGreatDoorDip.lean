/- x -/
import Derived.Sort.Walk0
import Derived.Test.YtlmfhjipbjkcbaaGreatDoorDiskC
import Derived.Test.YtlmfhjipbjkcbaaGreatDoorDlp
import Derived.Deep.DeepCutAuto
import Derived.Test.YtlmfhjipbjkcbaaGreatDoorAgg
set_option linter.unusedSimpArgs false
set_option linter.unusedVariables false
namespace Go.Proofs.YtlmfhjipbjkcbaaGreatDoor
section
open Go.RowKit Go.Sort Go.Lib
abbrev Fs:=List (ByteArray×FileS)
structure SortF (D F:Fs):Prop where
 perm:D.Perm F
 sort:(D.map (·.1)).Pairwise fun a b=>bl a<bl b
theorem SortF.nodup {D F:Fs}(h:SortF D F):(D.map (·.1)).Nodup:=by
 refine h.sort.imp (fun {a b} hab e=>?_)
 subst e
 exact List.lt_irrefl _ hab
theorem SortF.nodupF {D F:Fs}(h:SortF D F):(F.map (·.1)).Nodup:=(h.perm.map _).nodup_iff.1 h.nodup
theorem SortF.get {D F:Fs}(h:SortF D F) (s:ByteArray):aget D s=aget F s:=by
 cases hx:aget D s with
 | none =>
  symm
  rw [zaX]
  rw [zaX] at hx
  exact fun hm=>hx ((h.perm.map _).symm.subset hm)
 | some f=>exact (zeg h.nodupF (h.perm.subset (zaY hx))).symm
theorem SortF.at {D F:Fs}(h:SortF D F) {k:Nat}{s:ByteArray}{f:FileS}(hk:D[k]?=some (s,f)):aget F s=some f:=by
 rw [←h.get]
 exact zeg h.nodup (yag hk)
theorem sumF_perm {a b:Fs}(h:a.Perm b):sumF a=sumF b:=by
 unfold sumF
 exact (h.map _).sum_nat
theorem zef {T:Fs}{k:ByteArray}{s:FileS}(h:(T.map (·.1)).Nodup):((aput T k s).map (·.1)).Nodup:=by
 cases hx:aget T k with
 | none =>
  rw [zcs s hx,yav,List.nodup_append]
  refine ⟨h,by simp,fun a ha b hb e=>?_⟩
  simp at hb
  rw [zaX] at hx
  exact hx (by rw [←hb,←e];exact ha)
 | some u=>rw [aput_keys_old s (by rw [hx];simp)];exact h
theorem SortF.list {D:Fs}{S:DiskS}(h:SortF D S.files) (p:ByteArray):(D.map (·.1)).filter (fun s=>Lib.hasPrefix (bl s) (bl p))=S.list p:=by
 unfold DiskS.list DiskS.names
 refine zdW ?_ ?_ (zcL _)
 ·exact ((h.perm.map _).filter _).trans (zbw _).symm
 ·exact (h.sort.filter _).imp (fun {a b} hab=>List.le_of_lt hab)
theorem SortF.listAll {D:Fs}{S:DiskS}(h:SortF D S.files):D.map (·.1)=S.list ⟨#[]⟩:=by
 rw [←h.list ⟨#[]⟩]
 exact (List.filter_eq_self.2 (fun s _=>by simp [bl,Lib.hasPrefix])).symm
theorem SortF.crashStep {D:Fs}{S:DiskS}(h:SortF D S.files) (keep:List Int) {k:Nat}{s:ByteArray}{f:FileS}(hk:D[k]?=some (s,f)):crashStep S keep k=found s (keepF keep k f):=by
 unfold Go.Proofs.YtlmfhjipbjkcbaaGreatDoor.crashStep
 rw [←h.listAll,yar,hk]
 simp only [Option.map_some,h.at hk,Option.getD_some]
end
section
open Go.RowKit Go.Sort Go.Lib
theorem zdr (a b:Fs):sumF (a++b)=sumF a+sumF b:=by simp [sumF]
theorem sumF_one (p:ByteArray×FileS) (b:Fs):sumF (p::b)=p.2.bytes.length+sumF b:=by simp [sumF]
theorem sumF_new {F:Fs}{k:ByteArray}{f:FileS}(h:aget F k=none):sumF (aput F k f)=sumF F+f.bytes.length:=by
 rw [zcs f h,zdr];simp [sumF]
theorem sumF_old {F:Fs}{k:ByteArray}{f0 f:FileS}(h:aget F k=some f0):sumF (aput F k f)+f0.bytes.length=sumF F+f.bytes.length:=by
 obtain ⟨E1,E2,e,hp,_⟩:=zbs h
 rw [hp,e,zdr,sumF_one,zdr,sumF_one];simp only;omega
theorem sumF_del {F:Fs}{k:ByteArray}{f0:FileS}(h:aget F k=some f0):sumF (adel F k)+f0.bytes.length=sumF F:=by
 obtain ⟨E1,E2,e,_,hd⟩:=zbs h
 rw [hd,e,zdr,zdr,sumF_one];simp only;omega
theorem aput_mem {F:Fs}{k:ByteArray}{f:FileS}{p:ByteArray×FileS}(h:p∈aput F k f):p∈F∨p=(k,f):=by
 cases hx:aget F k with
 | none=>rw [zcs f hx] at h;simpa using h
 | some f0 =>
  obtain ⟨E1,E2,e,hp,_⟩:=zbs hx
  rw [hp] at h
  rw [e]
  rcases yah.1 h with h|h
  ·exact .inl (yat _ h)
  ·rcases yaq.1 h with h|h
   ·exact .inr h
   ·exact .inl (yaR _ (yaD _ h))
theorem zdv {F:Fs}{k:ByteArray}{f0 f:FileS}(h:aget F k=some f0):(aput F k f).length=F.length:=by
 obtain ⟨E1,E2,e,hp,_⟩:=zbs h
 rw [hp,e];simp
theorem aput_len_new {F:Fs}{k:ByteArray}{f:FileS}(h:aget F k=none):(aput F k f).length=F.length+1:=by
 rw [zcs f h];simp
theorem adel_len {F:Fs}{k:ByteArray}{f0:FileS}(h:aget F k=some f0):(adel F k).length+1=F.length:=by
 obtain ⟨E1,E2,e,_,hd⟩:=zbs h
 rw [hd,e];simp;omega
theorem adel_len_le (F:Fs) (k:ByteArray):(adel F k).length≤F.length:=(zcu F k).length_le
def FileOk (p:ByteArray×FileS):Prop:=p.2.bytes.length≤1048576∧p.2.lasts≤p.2.bytes.length∧p.1.size≤64
structure DInv (S:DiskS) (k:Nat):Prop where
 ok:S.Ok
 ops:S.ops≤k
 nm:∀p∈S.files,p.1.size≤64
 sum:S.used=(sumF S.files:Nat)
theorem DInv.file {S:DiskS}{k:Nat}(h:DInv S k) {p:ByteArray×FileS}(hp:p∈S.files):FileOk p:=⟨h.ok.small p hp,h.ok.lasts p hp,h.nm p hp⟩
theorem DInv.mono {S:DiskS}{k j:Nat}(h:DInv S k) (hk:k≤j):DInv S j:=⟨h.ok,by have:=h.ops;omega,h.nm,h.sum⟩
theorem DInv.put {S:DiskS}{k:Nat}(h:DInv S k) (F:Fs) (u:Int) (hu:u=(sumF F:Nat)) (hr:u≤S.room) (hf:∀p∈F,FileOk p) (hl:F.length≤512) (hn:(F.map (·.1)).Nodup):DInv { S with files:=F,used:=u } k :=
 ⟨⟨h.ok.room0,h.ok.room1,by show 0≤u;omega,hr,h.ok.left0,h.ok.left1,h.ok.ops0,fun p hp=>(hf p hp).1,hl,fun p hp=>(hf p hp).2.1,hn⟩,h.ops,fun p hp=>(hf p hp).2.2,hu⟩
theorem DInv.count {S:DiskS}{k:Nat}(h:DInv S k):DInv S.count (k+1):=by
 have h0:=h.ok.left0
 have h1:=h.ok.left1
 refine ⟨⟨h.ok.room0,h.ok.room1,h.ok.used0,h.ok.used1,?_,?_,?_,h.ok.small,h.ok.few,h.ok.lasts,h.ok.names⟩,?_,h.nm,h.sum⟩
 ·show -1≤(if 0<S.left then S.left-1 else S.left);split<;>omega
 ·show (if 0<S.left then S.left-1 else S.left)≤9223372036854775807;split<;>omega
 ·show 0≤S.ops+1;have:=h.ok.ops0;omega
 ·show S.ops+1≤((k+1:Nat):Int);have:=h.ops;omega
theorem DInv.doing {S:DiskS}{k:Nat}(h:DInv S k) {ns:List ByteArray}{r:Int×DiskS}(hr:ns.all nameB=true→DInv r.2 k):DInv (S.doing ns r).2 (k+1):=by
 unfold DiskS.doing zcp
 cases hn:ns.all nameB with
 | false=>simp;exact h.mono (by omega)
 | true =>
  by_cases hl:S.left=0
  ·simp [hl];exact h.mono (by omega)
  ·simp only [Bool.true_eq_false,if_false,hl]
   split
   ·exact (hr hn).count
   ·exact h.mono (by omega)
theorem nameB_size {s:ByteArray}(h:nameB s=true):s.size≤64:=by
 unfold nameB at h
 simp at h;exact h.2
theorem DInv.append {S:DiskS}{k:Nat}(h:DInv S k) (name:ByteArray) (bs:List UInt8):DInv (S.append name bs).2 (k+1):=by
 unfold DiskS.append
 refine h.doing (fun hn=>?_)
 have hns:name.size≤64:=nameB_size (by simpa using hn)
 have hsum:=h.sum
 unfold DiskS.put
 split
 ·exact h
 ·rename_i hroom
  split
  ·rename_i hx
   split
   ·exact h
   ·rename_i hm
    refine h.put _ _ (by rw [sumF_new hx];simp only;omega) (by omega) (fun p hp=>?_) (by rw [aput_len_new hx];have:=h.ok.few;omega) (zef h.ok.names)
    rcases aput_mem hp with hp|rfl
    ·exact h.file hp
    ·exact ⟨by simp only;omega,by simp,hns⟩
  ·rename_i f hx
   split
   ·exact h
   ·rename_i hm
    have hf:=h.file (zaY hx)
    have hs:=sumF_old (f:={ f with bytes:=f.bytes++bs }) hx
    simp only [yae] at hs
    refine h.put _ _ (by omega) (by omega) (fun p hp=>?_) (by rw [zdv hx];exact h.ok.few) (zef h.ok.names)
    rcases aput_mem hp with hp|rfl
    ·exact h.file hp
    ·have h2:f.lasts≤f.bytes.length:=hf.2.1
     exact ⟨by simp only [yae];omega,by simp only [yae];omega,hf.2.2⟩
theorem DInv.onFile {S S':DiskS}{k:Nat}(h:DInv S k) {ns:List ByteArray}{name:ByteArray}(hr:ns.all nameB=true→∀f,aget S.files name=some f→DInv S' k):DInv (S.onFile ns name S').2 (k+1):=by
 unfold DiskS.onFile
 refine h.doing (fun hn=>?_)
 split
 ·exact h
 ·rename_i f hx
  exact hr hn f hx
theorem DInv.sync {S:DiskS}{k:Nat}(h:DInv S k) (name:ByteArray):DInv (S.sync name).2 (k+1):=by
 refine h.onFile (fun hn f hx=>?_)
 unfold DiskS.synced
 rw [hx]
 have hf:=h.file (zaY hx)
 have hs:=sumF_old (f:=⟨f.bytes,f.bytes.length,true⟩) hx
 have hsum:=h.sum
 have hu:=h.ok.used1
 simp only at hs
 refine h.put _ _ (by omega) hu (fun p hp=>?_) (by rw [zdv hx];exact h.ok.few) (zef h.ok.names)
 rcases aput_mem hp with hp|rfl
 ·exact h.file hp
 ·exact ⟨hf.1,Nat.le_refl _,hf.2.2⟩
theorem DInv.drop {S:DiskS}{k:Nat}(h:DInv S k) (name:ByteArray):DInv (S.drop name) k:=by
 unfold DiskS.drop
 split
 ·exact h
 ·rename_i f hx
  have hs:=sumF_del hx
  have hsum:=h.sum
  have hu:=h.ok.used1
  exact h.put _ _ (by omega) (by omega) (fun p hp=>h.file ((zcu _ _).subset hp)) (Nat.le_trans (adel_len_le _ _) h.ok.few) (h.ok.names.sublist ((zcu _ _).map _))
theorem DInv.delete {S:DiskS}{k:Nat}(h:DInv S k) (name:ByteArray):DInv (S.delete name).2 (k+1):=h.onFile (fun _ _ _=>h.drop name)
theorem DInv.rename {S:DiskS}{k:Nat}(h:DInv S k) (old new:ByteArray):DInv (S.rename old new).2 (k+1):=by
 refine h.onFile (fun hn f hx=>?_)
 have hns:new.size≤64:=nameB_size (by simp at hn;exact hn.2)
 unfold DiskS.renamed
 by_cases he:old=new
 ·rw [if_pos he];exact h
 ·rw [if_neg he,hx]
  have hd:=h.drop new
  have hxd:aget (S.drop new).files old=some f:=by
   unfold DiskS.drop
   split
   ·exact hx
   ·simp only;rw [zbt he];exact hx
  have hnd:aget (S.drop new).files new=none:=by
   unfold DiskS.drop
   split
   ·rename_i h0;exact h0
   ·simp only;exact zcJ h.ok.names new
  have hnn:aget (adel (S.drop new).files old) new=none:=by rw [zbt (Ne.symm he)];exact hnd
  have hs1:=sumF_del hxd
  have hs2:=sumF_new (f:=f) hnn
  have hsum:=hd.sum
  have hl:=adel_len hxd
  refine hd.put _ _ (by omega) hd.ok.used1 (fun p hp=>?_) (by rw [aput_len_new hnn,hl];exact hd.ok.few) (zef (hd.ok.names.sublist ((zcu _ _).map _)))
  rcases aput_mem hp with hp|rfl
  ·exact hd.file ((zcu _ _).subset hp)
  ·exact ⟨(hd.file (zaY hxd)).1,(hd.file (zaY hxd)).2.1,hns⟩
theorem crashTo_le {S:DiskS}{D:Fs}(hD:SortF D S.files) (hl:∀p∈S.files,p.2.lasts≤p.2.bytes.length) (keep:List Int):∀k,sumF (zaN S keep k)≤sumF (D.take k)
 | 0=>by simp [zaN,sumF]
 | k+1=>by
  have ih:=crashTo_le hD hl keep k
  rw [zaN,zdr,yao]
  cases hk:D[k]? with
  | none =>
   have:(S.list ⟨#[]⟩)[k]?=none:=by rw [←hD.listAll,yar,hk];rfl
   simp only [crashStep,this,Option.toList_none,List.append_nil]
   simp only [sumF,List.map_nil,List.sum_nil] at ih ⊢;omega
  | some p =>
   obtain ⟨s,f⟩:=p
   rw [hD.crashStep keep hk,zdr]
   have hf:=hl (s,f) (hD.perm.subset (yag hk))
   have hlen:sumF (found s (keepF keep k f))≤f.bytes.length:=by
    unfold keepF
    split
    ·simp only [found,sumF,yaJ,List.map_nil,yaI,List.sum_nil,yaB];omega
    ·simp [found,sumF]
   simp only [Option.toList_some]
   rw [show sumF [(s,f)]=f.bytes.length by simp [sumF]]
   omega
theorem sumF_take (D:Fs) (k:Nat):sumF (D.take k)≤sumF D:=by
 have e:=zdr (D.take k) (D.drop k)
 rw [yaS] at e
 omega
theorem DInv.crash {S:DiskS}{k:Nat}(h:DInv S k) {D:Fs}(hD:SortF D S.files) (keep:List Int):DInv (S.crash keep) 0:=by
 have hle:=Nat.le_trans (crashTo_le hD h.ok.lasts keep (S.list ⟨#[]⟩).length) (sumF_take D _)
 rw [sumF_perm hD.perm] at hle
 have hsum:=h.sum
 have hu:=h.ok.used1
 have hnames:=zcW S keep (S.list ⟨#[]⟩).length
 have hsm:=zee h.ok keep (S.list ⟨#[]⟩).length
 have hmem:∀p∈zaN S keep (S.list ⟨#[]⟩).length,p.1.size≤64:=fun p hp=>by
  have h1:=hnames.subset (yap.2 ⟨p,hp,rfl⟩)
  have h2:=List.mem_of_mem_take h1
  rw [←hD.listAll] at h2
  obtain ⟨q,hq,e⟩:=yap.1 h2
  rw [←e]
  exact h.nm q (hD.perm.subset hq)
 refine ⟨⟨h.ok.room0,h.ok.room1,?_,?_,Int.le_refl _,by show (-1:Int)≤_;omega,Int.le_refl _,fun p hp=>(hsm p hp).1,?_,fun p hp=>(hsm p hp).2,?_⟩,by show (0:Int)≤_;omega,hmem,rfl⟩
 ·show (0:Int)≤(sumF _:Nat);omega
 ·show ((sumF (zaN S keep (S.list ⟨#[]⟩).length):Nat):Int)≤S.room;omega
 ·have:=hnames.length_le
  rw [yaw,yaB] at this
  have h2:=list_len h.ok
  show (zaN S keep (S.list ⟨#[]⟩).length).length≤512
  omega
 ·exact (list_nodup h.ok).sublist (hnames.trans (List.take_sublist _ _))
end
end Go.Proofs.YtlmfhjipbjkcbaaGreatDoor
