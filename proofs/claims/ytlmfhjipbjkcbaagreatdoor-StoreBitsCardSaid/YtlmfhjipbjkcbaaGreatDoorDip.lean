/- x -/
import Derived.Sort.Walk0
import Derived.Test.YtlmfhjipbjkcbaaGreatDoorDlp
import Derived.Deep.DeepCutAuto
import Derived.Test.YtlmfhjipbjkcbaaGreatDoorAgg
import Derived.Test.YtlmfhjipbjkcbaaGreatDoorDiskC
set_option maxHeartbeats 16000000
set_option maxRecDepth 100000
set_option linter.unusedSimpArgs false
set_option linter.unusedVariables false
namespace Go.Proofs.YtlmfhjipbjkcbaaGreatDoor
section
open Go.RowKit Go.Sort Go.Lib
abbrev Fs:=List (ByteArray×FileS)
theorem zdk {T:Fs}{k:ByteArray}{s:FileS}(h:(T.map (·.1)).Nodup):((aput T k s).map (·.1)).Nodup:=by
 cases hx:aget T k with
 | none =>
  rw [zcD s hx,yat,List.nodup_append]
  refine ⟨h,by simp,fun a ha b hb e=>?_⟩
  simp at hb
  rw [zbG] at hx
  exact hx (by rw [←hb,←e];exact ha)
 | some u=>rw [aput_keys_old s (by rw [hx];simp)];exact h
def DiskS.flip (S:DiskS) (name:ByteArray) (at':Int) (b:Nat):Int×DiskS:=match aget S.files name with
 | none=>(13,S)
 | some f=>if at'<0∨8*(f.bytes.length:Int)≤at' then (2,S) else (0,{ S with files:=aput S.files name { f with bytes:=flipL b at'.toNat f.bytes } })
theorem disk_flip {w:World}{d:Nat}{S:DiskS}{B:List Nat}(ok:S.Ok) (h:zbu w d S B) (name:ByteArray) (at':Int) (b:Nat) (hb:b<4294967296) :
 Calls Tryz.prog 15 #[.pointer (some ⟨d,0,none⟩),.string name,.int .i64 at',.int .u32 (b:Int)] w fun e w'=>e=.returned (.int .i64 (S.flip name at' b).1)∧zbp w d B (S.flip name at' b).2 w':=by
 have HA:=hid h
 obtain ⟨mb,E,h,hfs,rfl⟩:=h
 have c0:w.cell? ⟨d,0,none⟩=some (.map (some mb)):=by rw [zaa h.head];rfl
 have hz:∀w:World,(zeroValue 116).run Tryz.prog w=.ok (.pointer none) w:=fun _=>by kernel_rfl
 cases hx:aget E name with
 | none =>
  have hx':aget S.files name=none:=by rw [←hfs,fs,zaJ,hx];rfl
  have hlk:(Instr.lookup 92 (.map (some mb)) (.string name) false).run Tryz.prog w=.ok (.pointer none) w:=by
   have:=h.map.lookup (P:=Tryz.prog) (zaz Tryz.underlying9) Tryz.underlying92 (.pointer none) (hz _) name false
   rw [ptrs,zaJ,hx] at this
   simpa only [Option.map_none,Option.getD_none,Bool.false_eq_true,if_false] using this
  have HE:Hid (S.flip name at' b=(13,S)):=hid (by unfold DiskS.flip;rw [hx'])
  clear hx hx' h hfs hz
  go_enter Tryz.func15,Tryz.ntmps15
  go_wp2_with (go_at_call 40;refine (zcL c0).mono ?_;rintro e w' ⟨rfl,rfl⟩)
  go_ret
  rw [HE.out]
  exact ⟨rfl,zbp.same HA.out (Ext.refl _)⟩
 | some x =>
  have hx':aget S.files name=some x.f:=by rw [←hfs,fs,zaJ,hx];rfl
  have hlk:(Instr.lookup 92 (.map (some mb)) (.string name) false).run Tryz.prog w=.ok (.pointer (some ⟨x.fb,0,none⟩)) w:=by
   have:=h.map.lookup (P:=Tryz.prog) (zaz Tryz.underlying9) Tryz.underlying92 (.pointer none) (hz _) name false
   rw [ptrs,zaJ,hx] at this
   simpa only [Option.map_some,Option.getD_some,Bool.false_eq_true,if_false] using this
  have hsm:x.f.bytes.length≤1048576:=ok.small _ (zaY hx')
  obtain ⟨n,hn⟩:∃n,n=x.f.bytes.length:=⟨_,rfl⟩
  have hf:FileAt w x:=h.files (name,x) (zaY hx)
  obtain ⟨xa,xc,hxv⟩:=hf.row.shape
  rw [←hn] at hxv hsm
  have f0:w.cell? ⟨x.fb,0,none⟩=some (.slice xa n xc):=by rw [zaa hf.head,←hxv];rfl
  have e0:(w.alloc (.cells #[] 5 (0,0))).cell? ⟨x.fb,0,none⟩=some (.slice xa n xc):=by rw [((Ext.refl w).alloc _).cell (p:=⟨x.fb,0,none⟩) (zab hf.head)];exact f0
  have HFL:Hid (S.flip name at' b=if at'<0∨8*(n:Int)≤at' then (2,S) else (0,{ S with files:=aput S.files name { x.f with bytes:=flipL b at'.toNat x.f.bytes } })):=hid (by
   unfold DiskS.flip
   rw [hx']
   simp only [hn])
  have H:=hid h
  have HX:=hid hx
  have HFS:=hid hfs
  have HF:=hid hf
  have HXV:=hid hxv
  have HN:=hid hn
  have HB:=hid hb
  clear hx hx' h hfs hz hf hxv hn hb
  go_enter Tryz.func15,Tryz.ntmps15
  by_cases hneg:at'<0
  ·have HE:Hid (S.flip name at' b=(2,S)):=hid (HFL.out.trans (if_pos (.inl hneg)))
   go_wp2_with (go_at_call 40;refine (zcL c0).mono ?_;rintro e w' ⟨rfl,rfl⟩)
   go_ret
   rw [HE.out]
   exact ⟨rfl,zbp.same HA.out (Ext.refl _)⟩
  obtain ⟨p,rfl⟩:∃p:Nat,at'=(p:Int):=⟨at'.toNat,by omega⟩
  by_cases hbig:(8:Int)*(n:Int)≤(p:Int)
  ·have HE:Hid (S.flip name p b=(2,S)):=hid (HFL.out.trans (if_pos (.inr hbig)))
   have hneg':¬(p:Int)<0:=by omega
   go_wp2_with (go_at_call 40;refine (zcL c0).mono ?_;rintro e w' ⟨rfl,rfl⟩)
   go_ret
   rw [HE.out]
   exact ⟨rfl,zbp.same HA.out (Ext.refl _)⟩
  ·have hneg':¬(p:Int)<0:=by omega
   have HE:=hid (HFL.out.trans (if_neg (fun h=>h.elim hneg hbig)))
   clear hneg
   go_wp2_with (first
    | (go_at_call 40;refine (zcL c0).mono ?_;rintro e w' ⟨rfl,rfl⟩)
    | (at_builtin;go_must (refine zah (n:=0) (m:=n) zcl rfl _ _ rfl (v:=.slice _ _ _) rfl rfl (row_made (heap_alloc_new _ _) 1) (((HXV.out▸HN.out▸HF.out.row.src (zaC _)):Src w 1 (.slice xa n xc) n (u8s x.f.bytes)).ext ((Ext.refl _).alloc _)) (by unfold maxLen;omega) (by omega) ?_;intro v2 w3 happ);simp only [Nat.zero_add,yaK] at happ ⊢;obtain ⟨va2,vc2,rfl⟩:=happ.row.shape;have HAP:=hid happ;clear happ))
   clear hlk f0 e0 c0
   have HM3:Hid (MadeTo w 5 1 (.slice va2 n vc2) n (u8s x.f.bytes) w3):=hid ⟨HAP.out.row,fun g hg=>by
    rcases HAP.out.loc with e|e
    ·rw [e] at hg;have e2:w.heap.size=g:=yaC hg;omega
    ·rw [e] at hg;simp at hg;omega,((Chg.of_ext (S:=fun _=>False) ((Ext.refl w).alloc (.cells #[] 5 (0,0)))).trans HAP.out.chg (fun i hi e=>by
     have e2:w.heap.size=i:=yaC e
     omega)).ext (fun _ _=>id)⟩
   obtain ⟨g3,rfl,_⟩:=madeB_at HM3.out (by omega)
   obtain ⟨m,hm⟩:∃m:Nat,(m:Int)=min 32 (8*(n:Int)-(p:Int)):=⟨(min 32 (8*(n:Int)-(p:Int))).toNat,by omega⟩
   rw [←hm]
   have hm1:m≤32:=by omega
   have hm2:p+m≤8*n:=by omega
   have HMM:Hid (m=min 32 (8*n-p)):=hid (by omega)
   clear hm
   go_loopw [48,11] (fun s48 s11 wr=>∃(i:Nat) (bs:List UInt8),s48=.int .i64 i∧i≤m∧bs.length=n∧Hid (bs=zbT b p x.f.bytes i∧MadeTo w 5 1 (.slice (some ⟨g3,0,none⟩) n vc2) n (u8s bs) wr)) (fun s48 _ _=>m-(RowKit.intOf s48).toNat)
   case atStart=>exact ⟨0,x.f.bytes,by go_num,by omega,HN.out.symm,hid ⟨rfl,HM3.out⟩⟩
   case round =>
    obtain ⟨i,bs,rfl,hi,hbl,HM⟩:=hrel
    have HBL:=hid hbl
    by_cases hlt:i<m
    ·have hj:(p+i)/8<n:=by omega
     have hjl:(p+i)/8<bs.length:=by omega
     obtain ⟨_,e,_,h4,h5⟩:=madeB_at HM.out.2 (by omega)
     cases e
     have hgd:bs.getD ((p+i)/8) 0=bs[(p+i)/8]:=by rw [yaq,yac hjl];rfl
     have HST:Hid (zbT b p x.f.bytes (i+1)=zci b p bs i):=hid (by rw [zbT,HM.out.1])
     have cb:=h4 _ _ (yac hjl)
     have fb:=h5 ((p+i)/8)
     obtain ⟨y,hy⟩:∃y,y=bs[(p+i)/8]:=⟨_,rfl⟩
     rw [←hy] at hgd cb
     have HZ:Hid (zci b p bs i=bs.set ((p+i)/8) (flipB b p i y)):=hid (by unfold zci;rw [hgd])
     have hw1:IntKind.i64.wrap ((p:Int)+(i:Int))=((p+i:Nat):Int):=by rw [IntWalk.i64_in _ (by omega)];omega
     clear hbl hgd h4 h5 hy
     go_wp2_with fail
     refine zaj [] [0,1,2,3,4,5,6,7,8,9,10,11,12,13,14,15,16,17,18] [19] (by kernel_rfl) (by kernel_rfl) (fun _ _ dd _ _ hh=>by cases dd<;>exact hh) ?_
     simp only [zac,yab,yaa]
     refine wpQuiet_nil ?_
     repeat (go_big_quiet_step (fail))
     have hxr:bits .xor .u8 (y.toNat:Int) (bits .and .u32 ((b:Int)/2 ^ i) 1%256*2 ^ ((p+i)%8)%256)=((flipB b p i y).toNat:Int):=by
      rw [flipB_toNat,u32_bit b i HB.out]
      have hb1:=bitN_lt b i
      have h1:∀q:Nat,q<256→((q:Int)%256)=q:=by omega
      have h2:((2 ^ ((p+i)%8):Nat):Int)=2 ^ ((p+i)%8):=by push_cast;rfl
      have h3:bitN b i*2 ^ ((p+i)%8)<256:=by
       have h4:=pow8_lt (p+i)
       have:bitN b i=0∨bitN b i=1:=by omega
       rcases this with e|e<;>rw [e]<;>omega
      rw [h1 _ (by omega),←h2,←Int.natCast_mul,h1 _ h3]
      exact u8_xor _ _ (by have:=y.toNat_lt;omega) h3
     rw [hxr]
     refine wpQuiet_nil ?_
     intro W hw'
     have HXW:Hid (Ext wr W):=hid (by obtain ⟨kk,rfl⟩:=hw';exact Ext.drewN _ _)
     clear hw' hxr hw1 cb fb
     have HMW:=hid (⟨HM.out.2.row.ext HXW.out,HM.out.2.own,HM.out.2.ext.trans HXW.out⟩:MadeTo w 5 1 (.slice (some ⟨g3,0,none⟩) n vc2) n (u8s bs) W)
     have fb:=(madeB_at HMW.out (by omega)).choose_spec.2.2.2
     have hcb:W.cell? ⟨g3,(p+i)/8,none⟩≠none:=by
      obtain ⟨_,e,_,h4,_⟩:=madeB_at HMW.out (by omega)
      cases e
      rw [h4 _ _ (yac hjl)];simp
     obtain ⟨g',e',_,h4,h5⟩:=madeB_at HMW.out (by omega)
     cases e'
     have cb:=h4 _ _ (yac hjl)
     have fb:=h5 ((p+i)/8)
     clear h4 h5 hcb
     go_wp2_with fail
     go_roundw
     case rel=>exact ⟨i+1,bs.set ((p+i)/8) (flipB b p i y),by go_num,by omega,by rw [List.length_set];exact HBL.out,hid ⟨by rw [HST.out,HZ.out],HMW.out.setB (flipB b p i y)⟩⟩
     case measure=>simp [RowKit.intOf];omega
    ·have HFIN:Hid (bs=flipL b p x.f.bytes):=hid (by
      rw [HM.out.1];unfold flipL;congr 1;rw [←HN.out];have:=HMM.out;omega)
     have HD:=hid (H.out.ext HM.out.2.ext)
     have HF2:=hid (HF.out.ext' HM.out.2.ext)
     have f0:wr.cell? ⟨x.fb,0,none⟩=some (.slice xa n xc):=by rw [zaa HF2.out.head,←HXV.out];rfl
     have g0:wr.frozen? ⟨x.fb,0,none⟩=false:=zao HF2.out.head 0
     clear hbl
     go_wp2_with fail
     go_ret
     rw [HE.out]
     refine ⟨rfl,?_⟩
     have hc:=zal wr x.fb 0 (.slice (some ⟨g3,0,none⟩) n vc2)
     have hg3:w.heap.size≤g3:=HM.out.2.own g3 rfl
     have hxlt:x.fb<w.heap.size:=zab HF.out.head
     have hdlt:d<w.heap.size:=zab H.out.head
     have hdx:d≠x.fb:=by
      intro e
      have:=H.out.apart
      simp only [foot,yaP,yao,not_or] at this
      exact this.1.2 (List.mem_flatMap.2 ⟨(name,x),zaY HX.out,by simp [FileX.blocks,e]⟩)
     have hall:Chg (·=x.fb) w (wr.setCell ⟨x.fb,0,none⟩ (.slice (some ⟨g3,0,none⟩) n vc2)):=(Chg.of_ext (S:=(·=x.fb)) HM.out.2.ext).trans hc (fun _ _ e=>e)
     have hrow:Row (wr.setCell ⟨x.fb,0,none⟩ (.slice (some ⟨g3,0,none⟩) n vc2)) 5 1 (.slice (some ⟨g3,0,none⟩) n vc2) n (u8s bs):=HM.out.2.row.chg hc (fun b hb e=>by have e2:g3=b:=yaC hb;omega)
     obtain ⟨t1,t2⟩:=H.out.turn (x':=⟨x.fb,.slice (some ⟨g3,0,none⟩) n vc2,⟨bs,x.f.lasts,x.f.synced⟩⟩) (room':=S.room) (used':=S.used) (left':=S.left) (ops':=S.ops) HX.out hall (fun b e=>.inr (by rw [e];simp [FileX.blocks])) ((hall.block d hdlt hdx).trans H.out.head) ⟨by
      have:=zaq HF2.out.head (i:=0) (.slice (some ⟨g3,0,none⟩) n vc2)
      simpa using this,by rw [HBL.out];exact hrow⟩ rfl (.inr ⟨g3,rfl,hg3⟩)
     refine ⟨_,⟨mb,_,t1,?_,rfl⟩,hall.mono (fun i hi e=>?_),t2⟩
     ·show fs _=aput S.files name _
      rw [Int.toNat_natCast,←HFIN.out,←HFS.out]
      exact (zdj (fun x:FileX=>x.f) E name _).symm
     ·rw [e]
      simp only [foot,yao,List.mem_flatMap]
      exact .inr (.inr ⟨(name,x),zaY HX.out,by simp [FileX.blocks]⟩)
end
section
open Go.RowKit Go.Sort Go.Lib
theorem sumF_app (a b:Fs):sumF (a++b)=sumF a+sumF b:=by simp [sumF]
theorem sumF_one (p:ByteArray×FileS) (b:Fs):sumF (p::b)=p.2.bytes.length+sumF b:=by simp [sumF]
theorem sumF_new {F:Fs}{k:ByteArray}{f:FileS}(h:aget F k=none):sumF (aput F k f)=sumF F+f.bytes.length:=by
 rw [zcD f h,sumF_app];simp [sumF]
theorem sumF_old {F:Fs}{k:ByteArray}{f0 f:FileS}(h:aget F k=some f0):sumF (aput F k f)+f0.bytes.length=sumF F+f.bytes.length:=by
 obtain ⟨E1,E2,e,hp,_⟩:=zbo h
 rw [hp,e,sumF_app,sumF_one,sumF_app,sumF_one];simp only;omega
theorem sumF_del {F:Fs}{k:ByteArray}{f0:FileS}(h:aget F k=some f0):sumF (adel F k)+f0.bytes.length=sumF F:=by
 obtain ⟨E1,E2,e,_,hd⟩:=zbo h
 rw [hd,e,sumF_app,sumF_app,sumF_one];simp only;omega
theorem aput_mem {F:Fs}{k:ByteArray}{f:FileS}{p:ByteArray×FileS}(h:p∈aput F k f):p∈F∨p=(k,f):=by
 cases hx:aget F k with
 | none=>rw [zcD f hx] at h;simpa using h
 | some f0 =>
  obtain ⟨E1,E2,e,hp,_⟩:=zbo hx
  rw [hp] at h
  rw [e]
  rcases yag.1 h with h|h
  ·exact .inl (yar _ h)
  ·rcases yao.1 h with h|h
   ·exact .inr h
   ·exact .inl (yaM _ (yaB _ h))
theorem zcO {F:Fs}{k:ByteArray}{f0 f:FileS}(h:aget F k=some f0):(aput F k f).length=F.length:=by
 obtain ⟨E1,E2,e,hp,_⟩:=zbo h
 rw [hp,e];simp
theorem aput_len_new {F:Fs}{k:ByteArray}{f:FileS}(h:aget F k=none):(aput F k f).length=F.length+1:=by
 rw [zcD f h];simp
theorem adel_len {F:Fs}{k:ByteArray}{f0:FileS}(h:aget F k=some f0):(adel F k).length+1=F.length:=by
 obtain ⟨E1,E2,e,_,hd⟩:=zbo h
 rw [hd,e];simp;omega
theorem adel_len_le (F:Fs) (k:ByteArray):(adel F k).length≤F.length:=(zcn F k).length_le
def FileOk (p:ByteArray×FileS):Prop:=p.2.bytes.length≤1048576∧p.2.lasts≤p.2.bytes.length∧p.1.size≤64
structure DInv (S:DiskS) (k:Nat):Prop where
 ok:S.Ok
 ops:S.ops≤k
 nm:∀p∈S.files,p.1.size≤64
 sum:S.used=(sumF S.files:Nat)
theorem DInv.file {S:DiskS}{k:Nat}(h:DInv S k) {p:ByteArray×FileS}(hp:p∈S.files):FileOk p:=⟨h.ok.small p hp,h.ok.lasts p hp,h.nm p hp⟩
theorem DInv.mono {S:DiskS}{k j:Nat}(h:DInv S k) (hk:k≤j):DInv S j:=⟨h.ok,by have:=h.ops;omega,h.nm,h.sum⟩
theorem DInv.put {S:DiskS}{k:Nat}(h:DInv S k) (F:Fs) (u:Int) (hu:u=(sumF F:Nat)) (hr:u≤S.room) (hf:∀p∈F,FileOk p) (hl:F.length≤512) (hn:(F.map (·.1)).Nodup):DInv { S with files:=F,used:=u } k :=
 ⟨⟨h.ok.room0,h.ok.room1,by show 0≤u;omega,hr,h.ok.left0,h.ok.left1,h.ok.ops0,fun p hp=>(hf p hp).1,hl,fun p hp=>(hf p hp).2.1,hn⟩,h.ops,fun p hp=>(hf p hp).2.2,hu⟩
theorem DInv.count {S:DiskS}{k:Nat}(h:DInv S k):DInv S.count (k+1):=by
 have h0:=h.ok.left0
 have h1:=h.ok.left1
 refine ⟨⟨h.ok.room0,h.ok.room1,h.ok.used0,h.ok.used1,?_,?_,?_,h.ok.small,h.ok.few,h.ok.lasts,h.ok.names⟩,?_,h.nm,h.sum⟩
 ·show -1≤(if 0<S.left then S.left-1 else S.left);split<;>omega
 ·show (if 0<S.left then S.left-1 else S.left)≤9223372036854775807;split<;>omega
 ·show 0≤S.ops+1;have:=h.ok.ops0;omega
 ·show S.ops+1≤((k+1:Nat):Int);have:=h.ops;omega
theorem DInv.doing {S:DiskS}{k:Nat}(h:DInv S k) {ns:List ByteArray}{r:Int×DiskS}(hr:ns.all nameB=true→DInv r.2 k):DInv (S.doing ns r).2 (k+1):=by
 unfold DiskS.doing zcy
 cases hn:ns.all nameB with
 | false=>simp;exact h.mono (by omega)
 | true =>
  by_cases hl:S.left=0
  ·simp [hl];exact h.mono (by omega)
  ·simp only [Bool.true_eq_false,if_false,hl]
   split
   ·exact (hr hn).count
   ·exact h.mono (by omega)
theorem nameB_size {s:ByteArray}(h:nameB s=true):s.size≤64:=by
 unfold nameB at h
 simp at h;exact h.2
theorem DInv.append {S:DiskS}{k:Nat}(h:DInv S k) (name:ByteArray) (bs:List UInt8):DInv (S.append name bs).2 (k+1):=by
 unfold DiskS.append
 refine h.doing (fun hn=>?_)
 have hns:name.size≤64:=nameB_size (by simpa using hn)
 have hsum:=h.sum
 unfold DiskS.put
 split
 ·exact h
 ·rename_i hroom
  split
  ·rename_i hx
   split
   ·exact h
   ·rename_i hm
    refine h.put _ _ (by rw [sumF_new hx];simp only;omega) (by omega) (fun p hp=>?_) (by rw [aput_len_new hx];have:=h.ok.few;omega) (zdk h.ok.names)
    rcases aput_mem hp with hp|rfl
    ·exact h.file hp
    ·exact ⟨by simp only;omega,by simp,hns⟩
  ·rename_i f hx
   split
   ·exact h
   ·rename_i hm
    have hf:=h.file (zaY hx)
    have hs:=sumF_old (f:={ f with bytes:=f.bytes++bs }) hx
    simp only [yae] at hs
    refine h.put _ _ (by omega) (by omega) (fun p hp=>?_) (by rw [zcO hx];exact h.ok.few) (zdk h.ok.names)
    rcases aput_mem hp with hp|rfl
    ·exact h.file hp
    ·have h2:f.lasts≤f.bytes.length:=hf.2.1
     exact ⟨by simp only [yae];omega,by simp only [yae];omega,hf.2.2⟩
theorem DInv.onFile {S S':DiskS}{k:Nat}(h:DInv S k) {ns:List ByteArray}{name:ByteArray}(hr:ns.all nameB=true→∀f,aget S.files name=some f→DInv S' k):DInv (S.onFile ns name S').2 (k+1):=by
 unfold DiskS.onFile
 refine h.doing (fun hn=>?_)
 split
 ·exact h
 ·rename_i f hx
  exact hr hn f hx
theorem DInv.sync {S:DiskS}{k:Nat}(h:DInv S k) (name:ByteArray):DInv (S.sync name).2 (k+1):=by
 refine h.onFile (fun hn f hx=>?_)
 unfold DiskS.synced
 rw [hx]
 have hf:=h.file (zaY hx)
 have hs:=sumF_old (f:=⟨f.bytes,f.bytes.length,true⟩) hx
 have hsum:=h.sum
 have hu:=h.ok.used1
 simp only at hs
 refine h.put _ _ (by omega) hu (fun p hp=>?_) (by rw [zcO hx];exact h.ok.few) (zdk h.ok.names)
 rcases aput_mem hp with hp|rfl
 ·exact h.file hp
 ·exact ⟨hf.1,Nat.le_refl _,hf.2.2⟩
theorem DInv.drop {S:DiskS}{k:Nat}(h:DInv S k) (name:ByteArray):DInv (S.drop name) k:=by
 unfold DiskS.drop
 split
 ·exact h
 ·rename_i f hx
  have hs:=sumF_del hx
  have hsum:=h.sum
  have hu:=h.ok.used1
  exact h.put _ _ (by omega) (by omega) (fun p hp=>h.file ((zcn _ _).subset hp)) (Nat.le_trans (adel_len_le _ _) h.ok.few) (h.ok.names.sublist ((zcn _ _).map _))
theorem DInv.delete {S:DiskS}{k:Nat}(h:DInv S k) (name:ByteArray):DInv (S.delete name).2 (k+1):=h.onFile (fun _ _ _=>h.drop name)
theorem DInv.rename {S:DiskS}{k:Nat}(h:DInv S k) (old new:ByteArray):DInv (S.rename old new).2 (k+1):=by
 refine h.onFile (fun hn f hx=>?_)
 have hns:new.size≤64:=nameB_size (by simp at hn;exact hn.2)
 unfold DiskS.renamed
 by_cases he:old=new
 ·rw [if_pos he];exact h
 ·rw [if_neg he,hx]
  have hd:=h.drop new
  have hxd:aget (S.drop new).files old=some f:=by
   unfold DiskS.drop
   split
   ·exact hx
   ·simp only;rw [zbD he];exact hx
  have hnd:aget (S.drop new).files new=none:=by
   unfold DiskS.drop
   split
   ·rename_i h0;exact h0
   ·simp only;exact zdw h.ok.names new
  have hnn:aget (adel (S.drop new).files old) new=none:=by rw [zbD (Ne.symm he)];exact hnd
  have hs1:=sumF_del hxd
  have hs2:=sumF_new (f:=f) hnn
  have hsum:=hd.sum
  have hl:=adel_len hxd
  refine hd.put _ _ (by omega) hd.ok.used1 (fun p hp=>?_) (by rw [aput_len_new hnn,hl];exact hd.ok.few) (zdk (hd.ok.names.sublist ((zcn _ _).map _)))
  rcases aput_mem hp with hp|rfl
  ·exact hd.file ((zcn _ _).subset hp)
  ·exact ⟨(hd.file (zaY hxd)).1,(hd.file (zaY hxd)).2.1,hns⟩
theorem DInv.flip {S:DiskS}{k:Nat}(h:DInv S k) (name:ByteArray) (at':Int) (b:Nat):DInv (S.flip name at' b).2 k:=by
 unfold DiskS.flip
 split
 ·exact h
 ·rename_i f hx
  split
  ·exact h
  ·have hf:=h.file (zaY hx)
   have hs:=sumF_old (f:={ f with bytes:=flipL b at'.toNat f.bytes }) hx
   have hsum:=h.sum
   have hu:=h.ok.used1
   simp only [flipL_len] at hs
   refine h.put _ _ (by omega) hu (fun p hp=>?_) (by rw [zcO hx];exact h.ok.few) (zdk h.ok.names)
   rcases aput_mem hp with hp|rfl
   ·exact h.file hp
   ·exact ⟨by simp only [flipL_len];exact hf.1,by simp only [flipL_len];exact hf.2.1,hf.2.2⟩
end
end Go.Proofs.YtlmfhjipbjkcbaaGreatDoor
