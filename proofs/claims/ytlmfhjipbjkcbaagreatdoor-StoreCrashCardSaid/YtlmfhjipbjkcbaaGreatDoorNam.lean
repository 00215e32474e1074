/- x -/
import Derived.Test.YtlmfhjipbjkcbaaGreatDoorDict
import Derived.Test.YtlmfhjipbjkcbaaGreatDoorStm
import Derived.Test.YtlmfhjipbjkcbaaGreatDoorRng
set_option maxHeartbeats 4000000
set_option maxRecDepth 100000
set_option linter.unusedSimpArgs false
set_option linter.unusedVariables false
namespace Go.Proofs.YtlmfhjipbjkcbaaGreatDoor
open Go.RowKit Go.Sort Go.Lib
theorem mem_dictOf {l:List ByteArray}{s:ByteArray}{v:Value}(h:(s,v)∈zcR l):∃k,l[k]?=some s∧v=.int .i64 (k:Nat):=by
 obtain ⟨⟨a,i⟩,hm,he⟩:=yap.1 h
 simp only [Prod.mk.injEq] at he
 obtain ⟨rfl,rfl⟩:=he
 have:=List.mem_zipIdx' hm
 exact ⟨i,by simp [this],rfl⟩
theorem dictOf_mem {l:List ByteArray}{s:ByteArray}{k:Nat}(h:l[k]?=some s):(s,Value.int .i64 (k:Nat))∈zcR l :=
 yap.2 ⟨(s,k),by rw [List.mk_mem_zipIdx_iff_getElem?];exact h,rfl⟩
structure NamesR (w:World) (mb r ob:Nat) (l:List ByteArray) (left:List (ByteArray×Value)) (cs:Array Value) (wr:World):Prop where
 iter:Iter (fun s:ByteArray=>Value.string s) wr mb r (zcR l) left
 sub:∀p∈left,p∈zcR l
 blk:wr.heap[ob]?=some (.cells cs 9 (0,0))
 size:cs.size=l.length
 done:∀(k:Nat) s,l[k]?=some s→(s,Value.int .i64 (k:Nat))∉left→cs[k]?=some (.string s)
 ne:ob≠mb∧ob≠r
 ext:Ext w wr
 new:w.heap.size≤ob∧w.heap.size≤r
theorem NamesR.step {w wr w1:World}{mb r ob:Nat}{l:List ByteArray}{left l1 l2:List (ByteArray×Value)}{s:ByteArray}{k:Nat}{cs:Array Value}(h:NamesR w mb r ob l left cs wr) (hl:left=l1++(s,.int .i64 (k:Nat))::l2) (hk:l[k]?=some s)
 (hi:Iter (fun s:ByteArray=>Value.string s) w1 mb r (zcR l) (l1++l2)) (hc:Chg (·=r) wr w1):NamesR w mb r ob l (l1++l2) (cs.setIfInBounds k (.string s)) (w1.setCell ⟨ob,k,none⟩ (.string s)):=by
 have hb1:=(hc.block ob (zab h.blk) h.ne.2).trans h.blk
 have hkl:k<l.length:=(yad.1 hk).1
 refine ⟨hi.chg (zaj _ _ _ _) (fun e=>h.ne.1 e.symm) (fun e=>h.ne.2 e.symm),fun p hp=>h.sub p ?_,zaq hb1 _,by simp [h.size],fun j t hj hn=>?_,h.ne,?_,h.new⟩
 ·subst hl
  rcases yah.1 hp with hp|hp
  ·exact yat _ hp
  ·exact yaR _ (yaD _ hp)
 ·by_cases e:j=k
  ·subst e
   rw [hk] at hj;cases hj
   rw [Array.getElem?_setIfInBounds_self_of_lt (by rw [h.size];exact hkl)]
  ·rw [Array.getElem?_setIfInBounds_ne (Ne.symm e)]
   refine h.done j t hj (fun hm=>hn ?_)
   subst hl
   rcases yah.1 hm with hm|hm
   ·exact yat _ hm
   ·rcases yaq.1 hm with hm|hm
    ·simp only [Prod.mk.injEq,Value.int.injEq,true_and] at hm
     exact absurd (by omega) e
    ·exact yaR _ hm
 ·have h0:Chg (fun b=>b=r∨b=ob) w w1:=(Chg.of_ext (S:=fun b=>b=r∨b=ob) h.ext).trans hc (fun _ _ e=>.inl e)
  have h1:=h0.trans (zaj w1 ob k (.string s)) (fun _ _ e=>.inr e)
  exact h1.ext (fun i hi e=>by have:=h.new;omega)
theorem NamesR.row {w wr:World}{mb r ob:Nat}{l:List ByteArray}{cs:Array Value}(h:NamesR w mb r ob l [] cs wr) (hl:l.length≤1024):Row wr 9 1 (.slice (some ⟨ob,0,none⟩) l.length l.length) l.length (strs l):=by
 refine ⟨by rw [strs_len];omega,.inr ⟨ob,l.length,cs,rfl,Nat.zero_le _,h.blk,Nat.le_refl _,by unfold maxLen;omega,by simp [h.size],?_⟩⟩
 rw [Nat.mul_one,yai (by simp [h.size])]
 apply List.ext_getElem?
 intro j
 rw [Array.getElem?_toList,strs,yar]
 rcases Nat.lt_or_ge j l.length with hj|hj
 ·rw [yac hj]
  exact h.done j _ (yac hj) (by simp)
 ·rw [List.getElem?_eq_none hj,Array.getElem?_eq_none (by rw [h.size];exact hj)];rfl
theorem dict_names {w:World}{d mb:Nat}{l:List ByteArray}(h:DictAt w d mb l) :
 Calls Tryz.prog 124 #[.pointer (some ⟨d,0,none⟩)] w fun e w'=>∃v,e=.returned v∧StrsTo w l v w':=by
 have hc:=h.cell
 have hlt:=h.lt
 have hl:=fun ty=>h.map.run_len (P:=Tryz.prog) Tryz.underlying288 ty
 rw [zcV] at hl
 have few:=h.few
 obtain ⟨n,hn⟩:∃n:Nat,n=l.length:=⟨_,rfl⟩
 rw [←hn] at hl few
 obtain ⟨w1,cs,hmk,hb,hsz,hx⟩:=make_strs w n (by omega)
 obtain ⟨it,hrg,hit⟩:=zdF (P:=Tryz.prog) (h.map.ext hx) Tryz.underlying288
 have hc1:w1.cell? ⟨d,0,none⟩=some (.map (some mb)):=(hx.cell (p:=⟨d,0,none⟩) hlt).trans hc
 have H:=hid h
 have HN:=hid hn
 have HR:Hid (NamesR w mb w1.heap.size w.heap.size l (zcR l) cs (w1.alloc it)):=hid ⟨hit,fun _ h=>h,by rw [heap_alloc_old _ _ (zab hb)];exact hb,by rw [hsz,hn],fun k s hk hm=>absurd (dictOf_mem hk) hm,⟨by have:=h.map.lt;omega,by have:=zab hb;omega⟩,hx.trans ((Ext.refl _).alloc _),⟨Nat.le_refl _,hx.size⟩⟩
 clear h hn hx hit hb hsz
 go_enter Tryz.func124,Tryz.ntmps124
 go_wp2_with (first
  | (go_at_call 181;refine (zdl H.out).mono ?_;rintro e w' ⟨rfl,rfl⟩))
 clear hmk hrg hl hc hc1 hlt
 obtain ⟨r,hr⟩:∃r:Nat,r=w1.heap.size:=⟨_,rfl⟩
 obtain ⟨ob,hob⟩:∃ob:Nat,ob=w.heap.size:=⟨_,rfl⟩
 rw [←hr,←hob] at HR
 rw [←hr,←hob]
 clear hr hob
 go_loopw [4] (fun _ wr=>∃left cs,Hid (NamesR w mb r ob l left cs wr)) (fun _ wr=>zbD wr mb r)
 case atStart=>exact ⟨_,_,HR⟩
 case round =>
  clear HR
  obtain ⟨left,cs,HR⟩:=hrel
  rcases iter_next (P:=Tryz.prog) HR.out.iter with ⟨rfl,hnx⟩|⟨l1,s,v,l2,w2,hl,hnx,hen,hi,hch,hsz⟩
  ·go_wp2_with fail
   go_ret
   exact ⟨_,rfl,by rw [HN.out];exact HR.out.row H.out.few,fun g hg=>by have:=HR.out.new;simp [Value.ownBlock] at hg;omega,HR.out.ext⟩
  ·obtain ⟨k,hk,rfl⟩:=mem_dictOf (HR.out.sub (s,v) (by rw [hl];simp))
   have hkn:k<n:=by have:=(yad.1 hk).1;have:=HN.out;omega
   have hb2:=(hch.block ob (zab HR.out.blk) HR.out.ne.2).trans HR.out.blk
   have hcell:=zaa hb2 k
   have hfree:=zan hb2 k
   rw [Array.getElem?_eq_getElem (by rw [HR.out.size,←HN.out];exact hkn)] at hcell
   have HS:=hid (HR.out.step hl hk hi hch)
   have Hm:Hid (zbD (w2.setCell ⟨ob,k,none⟩ (.string s)) mb r<zbD wr mb r):=hid (by
    rw [HS.out.iter.count,HR.out.iter.count,hl];simp)
   clear hl hk hi hch hsz hb2
   go_wp2_with fail
   go_roundw
   case rel=>exact ⟨_,_,HS⟩
   case measure=>exact Hm.out
end Go.Proofs.YtlmfhjipbjkcbaaGreatDoor
