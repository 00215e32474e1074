/- x -/
import Derived.Test.YtlmfhjipbjkcbaaGreatDoorSer
import Derived.Test.YtlmfhjipbjkcbaaGreatDoorMap
import Derived.WalkSpells
set_option maxHeartbeats 2000000
set_option maxRecDepth 100000
set_option linter.unusedSimpArgs false
set_option linter.unusedVariables false
namespace Go.Proofs.YtlmfhjipbjkcbaaGreatDoor
open Go.RowKit Go.Sort
def zcR (l:List ByteArray):List (ByteArray×Value):=l.zipIdx.map fun p=>(p.1,.int .i64 (p.2:Int))
theorem zcV (l:List ByteArray):(zcR l).length=l.length:=by simp [zcR]
theorem dictOf_keys (l:List ByteArray):(zcR l).map (·.1)=l:=by simp [zcR,Function.comp_def]
theorem dictOf_snoc (l:List ByteArray) (s:ByteArray):zcR (l++[s])=zcR l++[(s,.int .i64 (l.length:Int))]:=by simp [zcR,List.zipIdx_append]
theorem aget_dict_none {l:List ByteArray}{s:ByteArray}(h:s∉l):aget (zcR l) s=none:=by
 rw [zaX,dictOf_keys];exact h
theorem aget_zip {l:List ByteArray}(hn:l.Nodup):∀{i:Nat}{s:ByteArray}(n:Nat),l[i]?=some s→aget ((l.zipIdx n).map fun p=>(p.1,Value.int .i64 (p.2:Int))) s=some (.int .i64 ((n+i:Nat):Int)):=by
 induction l with
 | nil=>intro i s n h;simp at h
 | cons x l ih =>
  intro i s n h
  rw [yaU] at hn
  cases i with
  | zero=>simp at h;subst h;simp [aget]
  | succ i =>
   simp at h
   have hne:s≠x:=fun e=>hn.1 (e▸yag h)
   simp only [List.zipIdx_cons,yaJ,aget,if_neg hne]
   rw [ih hn.2 (n+1) h]
   congr 2;omega
theorem aget_dict_some {l:List ByteArray}(hn:l.Nodup) {i:Nat}{s:ByteArray}(h:l[i]?=some s):aget (zcR l) s=some (.int .i64 (i:Int)):=by
 have:=aget_zip hn 0 h
 simpa [zcR] using this
structure DictAt (w:World) (d mb:Nat) (l:List ByteArray):Prop where
 cell:w.cell? ⟨d,0,none⟩=some (.map (some mb))
 map:MapIs (fun s:ByteArray=>Value.string s) w mb (zcR l)
 nodup:l.Nodup
 few:l.length≤1024
theorem DictAt.lt {w:World}{d mb:Nat}{l:List ByteArray}(h:DictAt w d mb l):d<w.heap.size:=yaf w _ h.cell
theorem DictAt.ne {w:World}{d mb:Nat}{l:List ByteArray}(h:DictAt w d mb l):d≠mb:=by
 intro e
 subst e
 obtain ⟨es,c,hb,_⟩:=h.map
 have:=h.cell
 simp [World.cell?,hb] at this
theorem DictAt.chg {S:Nat→Prop}{w w':World}{d mb:Nat}{l:List ByteArray}(h:DictAt w d mb l) (hc:Chg S w w') (hd:¬S d) (hm:¬S mb):DictAt w' d mb l :=
 ⟨by rw [hc.cell (p:=⟨d,0,none⟩) h.lt hd];exact h.cell,h.map.chg hc hm,h.nodup,h.few⟩
theorem DictAt.ext {w w':World}{d mb:Nat}{l:List ByteArray}(h:DictAt w d mb l) (hc:Ext w w'):DictAt w' d mb l :=
 h.chg (Chg.of_ext (S:=fun _=>False) hc) id id
theorem dict_new (w:World) :
 Calls Tryz.prog 179 #[] w fun e w'=>e=.returned (.pointer (some ⟨w.heap.size+1,0,none⟩))∧DictAt w' (w.heap.size+1) w.heap.size []∧Ext w w':=by
 have hmm:=@run_makeMap Tryz.prog
 go_enter Tryz.func179,Tryz.ntmps179
 go_wp2
 go_ret
 refine ⟨by simp,⟨?_,?_,List.nodup_nil,by simp⟩,((Ext.refl _).alloc _).alloc _⟩
 ·simp [go_sem]
 ·exact (MapIs.new w).ext ((Ext.refl _).alloc _)
theorem zdl {w:World}{d mb:Nat}{l:List ByteArray}(h:DictAt w d mb l) :
 Calls Tryz.prog 181 #[.pointer (some ⟨d,0,none⟩)] w fun e w'=>e=.returned (.bool false)∧w=w':=by
 have hc:=h.cell
 have hn:=fun (w:World)=>run_eql_map_nil (P:=Tryz.prog) w 288 _ _ (some mb) Tryz.underlying288
 go_enter Tryz.func181,Tryz.ntmps181
 go_wp2
 go_ret
 exact ⟨rfl,rfl⟩
theorem dict_len {w:World}{d mb:Nat}{l:List ByteArray}(h:DictAt w d mb l) :
 Calls Tryz.prog 123 #[.pointer (some ⟨d,0,none⟩)] w fun e w'=>e=.returned (.int .i64 l.length)∧w=w':=by
 have hc:=h.cell
 have hl:=fun ty=>h.map.run_len (P:=Tryz.prog) Tryz.underlying288 ty
 rw [zcV] at hl
 go_enter Tryz.func123,Tryz.ntmps123
 go_wp2_with (go_at_call 181;refine (zdl h).mono ?_;rintro e w' ⟨rfl,rfl⟩)
 go_ret
 exact ⟨rfl,rfl⟩
def zbk (l:List ByteArray) (s:ByteArray):Int×Int :=
 if zbg s.data.toList=false then (0,2)
 else if s∈l then ((l.idxOf s:Nat),0)
 else if 1024≤l.length then (0,15)
 else ((l.length:Nat),0)
def zbn (l:List ByteArray) (s:ByteArray):List ByteArray :=
 if zbg s.data.toList=true∧s∉l∧l.length<1024 then l++[s] else l
theorem dict_put {w:World}{d mb:Nat}{l:List ByteArray}(h:DictAt w d mb l) (s:ByteArray) (hs:s.size≤maxLen) :
 Calls Tryz.prog 180 #[.pointer (some ⟨d,0,none⟩),.string s] w fun e w' =>
  e=.returned (.tuple #[.int .i64 (zbk l s).1,.int .i64 (zbk l s).2])∧DictAt w' d mb (zbn l s)∧Chg (·=mb) w w':=by
 have hc:=h.cell
 have hz:∀w:World,(zeroValue 3).run Tryz.prog w=.ok (.int .i64 0) w:=fun _=>by kernel_rfl
 have hlk:=h.map.lookup (P:=Tryz.prog) (zaz Tryz.underlying9) Tryz.underlying288 (.int .i64 0) (hz w) s true
 by_cases hv:zbg s.data.toList=true
 ·by_cases hm:s∈l
  ·have hi:l[l.idxOf s]?=some s:=by
    rw [yac (List.idxOf_lt_length_iff.2 hm)];simp
   rw [aget_dict_some h.nodup hi] at hlk
   simp only [Option.getD_some,Option.isSome_some,if_true] at hlk
   have Ht:=Lib.hid (show zbk l s=(((l.idxOf s:Nat):Int),0) by simp [zbk,hv,hm])
   have Hn:=Lib.hid (show zbn l s=l by simp [zbn,hm])
   generalize l.idxOf s=k at *
   have Hv:=Lib.hid hv;clear hv hm hi
   go_enter Tryz.func180,Tryz.ntmps180
   go_wp2_with (first
    | (go_at_call 181;refine (zdl h).mono ?_;rintro e w' ⟨rfl,rfl⟩)
    | (go_at_call 157;refine (valid_any _ _ hs).mono ?_;rintro e w' ⟨rfl,rfl⟩;rw [Hv.out]))
   go_ret2
   rw [Ht.out,Hn.out]
   exact ⟨rfl,h,Chg.refl _ _⟩
  ·rw [aget_dict_none hm] at hlk
   simp only [Option.getD_none,Option.isSome_none,if_true] at hlk
   have hl:=fun ty=>h.map.run_len (P:=Tryz.prog) Tryz.underlying288 ty
   rw [zcV] at hl
   have Hv:=Lib.hid hv
   obtain ⟨n,hn⟩:∃n:Nat,n=l.length:=⟨_,rfl⟩
   rw [←hn] at hl
   by_cases hf:1024≤l.length
   ·have Ht:=Lib.hid (show zbk l s=(0,15) by simp [zbk,hv,hm,hf])
    have Hn:=Lib.hid (show zbn l s=l by simp [zbn,hf])
    have hf':(1024:Int)≤(n:Int):=by omega
    clear hv hm hn hf
    go_enter Tryz.func180,Tryz.ntmps180
    go_wp2_with (first
     | (go_at_call 181;refine (zdl h).mono ?_;rintro e w' ⟨rfl,rfl⟩)
     | (go_at_call 157;refine (valid_any _ _ hs).mono ?_;rintro e w' ⟨rfl,rfl⟩;rw [Hv.out]))
    go_ret2
    rw [Ht.out,Hn.out]
    exact ⟨rfl,h,Chg.refl _ _⟩
   ·have Ht:=Lib.hid (show zbk l s=((l.length:Int),0) by simp [zbk,hv,hm,hf])
    have Hn:=Lib.hid (show zbn l s=l++[s] by simp [zbn,hv,hm];omega)
    obtain ⟨w1,hup,hmap,hchg⟩:=h.map.update (P:=Tryz.prog) (zaz Tryz.underlying9) Tryz.underlying288 s (.int .i64 (l.length:Int))
    rw [zcs _ (aget_dict_none hm),←dictOf_snoc] at hmap
    have Hm:=Lib.hid hm
    rw [←hn] at hup
    have hf':(n:Int)<(1024:Int):=by omega
    have Hl:=Lib.hid hn
    clear hv hm hn hf
    go_enter Tryz.func180,Tryz.ntmps180
    go_wp2_with (first
     | (go_at_call 181;refine (zdl h).mono ?_;rintro e w' ⟨rfl,rfl⟩)
     | (go_at_call 157;refine (valid_any _ _ hs).mono ?_;rintro e w' ⟨rfl,rfl⟩;rw [Hv.out]))
    go_ret2
    rw [Ht.out,Hn.out]
    refine ⟨by rw [←Hl.out];rfl,⟨?_,hmap,?_,by have:=Hl.out;simp;omega⟩,hchg⟩
    ·rw [hchg.cell (p:=⟨d,0,none⟩) h.lt h.ne];exact h.cell
    ·rw [List.nodup_append];exact ⟨h.nodup,by simp,fun a ha b hb e=>by simp at hb;subst hb;subst e;exact Hm.out ha⟩
 ·have hv':zbg s.data.toList=false:=by simpa using hv
  have Ht:=Lib.hid (show zbk l s=(0,2) by simp [zbk,hv'])
  have Hn:=Lib.hid (show zbn l s=l by simp [zbn,hv'])
  have Hv:=Lib.hid hv';clear hv hv'
  go_enter Tryz.func180,Tryz.ntmps180
  go_wp2_with (first
   | (go_at_call 181;refine (zdl h).mono ?_;rintro e w' ⟨rfl,rfl⟩)
   | (go_at_call 157;refine (valid_any _ _ hs).mono ?_;rintro e w' ⟨rfl,rfl⟩;rw [Hv.out]))
  go_ret2
  rw [Ht.out,Hn.out]
  exact ⟨rfl,h,Chg.refl _ _⟩
end Go.Proofs.YtlmfhjipbjkcbaaGreatDoor
