/- x -/
import Derived.Test.YtlmfhjipbjkcbaaGreatDoorVbq
import Derived.Test.YtlmfhjipbjkcbaaGreatDoorPln2
import Derived.Deep.DeepCutAuto
set_option maxHeartbeats 8000000
set_option maxRecDepth 100000
set_option linter.unusedSimpArgs false
set_option linter.unusedVariables false
namespace Go.Proofs.YtlmfhjipbjkcbaaGreatDoor
section
open Go.RowKit Go.Sort Go.Lib
theorem Ext.newBlock {w w':World}{o:Obj}(h:Ext (w.alloc o) w'):w'.heap[w.heap.size]?=some o:=by
 rw [h.block (Array.getElem?_eq_some_iff.mp (heap_alloc_new w o)).1];exact heap_alloc_new w o
theorem bufRow_le {w:World}{e:TypeId}{size n m c:Nat}{a:Option Addr}{xs:List Value}(h:Row w e size (.slice a m c) n xs):m≤c:=by
 obtain ⟨_,⟨e,_⟩|⟨g,cap,cur,e,_,_,h2,_⟩⟩:=h
 ·simp at e;omega
 ·simp at e;omega
structure Buf (w0:World) (l:List UInt8) (n:Nat) (a:Option Addr) (c:Nat) (w:World):Prop where
 made:MadeTo w0 5 1 (.slice a n c) n (u8s l) w
 len:n=l.length
theorem Buf.nil (w:World):Buf w [] 0 none 0 w:=⟨⟨Row.nil _ _ _,fun g hg=>by simp [Value.ownBlock] at hg,Ext.refl _⟩,rfl⟩
theorem Buf.src {w0 w:World}{l:List UInt8}{n c:Nat}{a:Option Addr}(h:Buf w0 l n a c w):Src w 1 (.slice a n c) n (u8s l):=h.made.row.src (zaH _)
theorem Buf.le {w0 w:World}{l:List UInt8}{n c:Nat}{a:Option Addr}(h:Buf w0 l n a c w):n≤c:=bufRow_le h.made.row
theorem Buf.ext {w0 w w':World}{l:List UInt8}{n c:Nat}{a:Option Addr}(h:Buf w0 l n a c w) (hx:Ext w w'):Buf w0 l n a c w':=⟨h.made.ext' hx,h.len⟩
def PutB (w0 w:World) (l:List UInt8) (k:Nat) (e:Ending) (w':World):Prop:=∃a c m,e=.returned (.slice a m c)∧Buf w0 l m a c w'∧Ext w w'∧m≤k∧∀q,(Value.slice a m c).ownBlock=some q→w.heap.size≤q
theorem PutB.of {w0 w w':World}{l x:List UInt8}{n c k:Nat}{a:Option Addr}{e:Ending}(hB:Buf w0 l n a c w) (hk:x.length≤k) (h:PutTo w (l++x) e w'):PutB w0 w (l++x) (n+k) e w':=by
 obtain ⟨a',c',rfl,h⟩:=h
 exact ⟨a',c',_,rfl,⟨h.trans hB.made.ext,rfl⟩,h.ext,by rw [yae,←hB.len];omega,h.own⟩
def u64n (z:Int):Nat:=(z%18446744073709551616).toNat
theorem u64n_wrap (z:Int):IntKind.u64.wrap z=((u64n z:Nat):Int):=by rw [IntKind.wrap_u64];unfold u64n;omega
theorem zbF (z:Int):u64n z<2 ^ 64:=by unfold u64n;omega
theorem u64n_pos {z:Int}(h:0≤z) (h1:z≤9223372036854775807):u64n z=z.toNat:=by unfold u64n;omega
section
variable {w0 w:World} {l:List UInt8} {n c:Nat} {a:Option Addr}
theorem varPut_b {z:Int}(u:Nat) (hz:z=(u:Int)) (hu:u<2 ^ 64) (hB:Buf w0 l n a c w) (hn:n≤70368744177664) :
 Calls Tryz.prog 92 #[.slice a n c,.int .u64 z] w (PutB w0 w (l++varP u) (n+10)):=by
 subst hz
 exact (varPut' w a n c l u hu hB.src hB.le hn).mono fun _ _ h=>.of hB (zaQ hu) h
theorem zdN (z:Int) (h0:-9223372036854775808≤z) (h1:z≤9223372036854775807) (hB:Buf w0 l n a c w) (hn:n≤70368744177664) :
 Calls Tryz.prog 95 #[.slice a n c,.int .i64 z] w (PutB w0 w (l++varP (zig z)) (n+10)) :=
 (zdO w a n c l z h0 h1 hB.src hB.le hn).mono fun _ _ h=>.of hB (zaQ (zeb h0 h1)) h
def txtP (s:ByteArray):List UInt8:=varP s.size++s.data.toList
theorem txtP_len {s:ByteArray}(h:s.size<2 ^ 64):(txtP s).length≤10+s.size:=by
 have h1:=zaQ h
 have h2:s.data.toList.length=s.size:=by simp
 unfold txtP;rw [yae];omega
theorem varPutText_b (s:ByteArray) (hs:s.size≤35184372088832) (hB:Buf w0 l n a c w) (hn:n≤35184372088832) :
 Calls Tryz.prog 93 #[.slice a n c,.string s] w (PutB w0 w (l++txtP s) (n+(10+s.size))) :=
 (zdM w a n c l s hB.src hB.le hn hs).mono fun _ _ h=>.of hB (txtP_len (by omega)) h
end
structure Mk where
 s:Bool
 t:Int
 g:Int
abbrev Mk.val (m:Mk):Value:=.agg #[.bool m.s,.int .i64 m.t,.int .i64 m.g]
structure Mk.ok (m:Mk):Prop where
 t0:-9223372036854775808≤m.t
 t1:m.t≤9223372036854775807
 g0:-9223372036854775808≤m.g
 g1:m.g≤9223372036854775807
def markP (m:Mk):List UInt8:=varP (u64n m.g)++(if m.s then varP 1++varP (zig m.t) else varP 0)
theorem waterPut_b {w0 w:World}{l:List UInt8}{n c:Nat}{a:Option Addr}(m:Mk) (hm:m.ok) (hB:Buf w0 l n a c w) (hn:n≤35184372088832) :
 Calls Tryz.prog 115 #[.slice a n c,m.val] w (PutB w0 w (l++markP m) (n+30)):=by
 obtain ⟨s,t,g⟩:=m
 have ht0:=hm.t0
 have ht1:=hm.t1
 have HB:=hid hB
 simp only at ht0 ht1
 clear hm hB
 cases s
 ·have HF:Hid (l++varP (u64n g)++varP 0=l++markP ⟨false,t,g⟩):=hid (by simp [markP])
  generalize l++markP ⟨false,t,g⟩=L at HF ⊢
  go_enter Tryz.func115,Tryz.ntmps115
  go_wp2_with fail
  refine (varPut_b (u64n g) (u64n_wrap g) (zbF g) (HB.out.ext ((Ext.refl _).alloc _)) (by omega)).mono ?_
  rintro e w1 ⟨a1,c1,n1,rfl,hB1,hx1,hn1,ho1⟩
  have HB1:=hid hB1
  have HX1:=hid (((Ext.refl w).alloc _).trans hx1)
  have h0:=hx1.newBlock
  have f0:=zaa h0 0
  have f2:=zaa h0 2
  clear hB1 hx1
  go_wp2_with fail
  refine (varPut_b 0 rfl (by decide) HB1.out (by omega)).mono ?_
  rintro e w2 ⟨a2,c2,n2,rfl,hB2,hx2,hn2,ho2⟩
  have HB2:=hid hB2
  have HX2:=hid (HX1.out.trans hx2)
  have HO2:=hid (fun q hq=>Nat.le_trans HX1.out.size (ho2 q hq))
  clear ho1 ho2
  rw [HF.out] at HB2
  clear hB2 hx2 h0 f0 f2
  go_wp2_with fail
  go_ret
  exact ⟨a2,c2,n2,rfl,HB2.out,HX2.out,by omega,HO2.out⟩
 ·have HF:Hid (l++varP (u64n g)++varP 1++varP (zig t)=l++markP ⟨true,t,g⟩):=hid (by simp [markP])
  generalize l++markP ⟨true,t,g⟩=L at HF ⊢
  go_enter Tryz.func115,Tryz.ntmps115
  go_wp2_with fail
  refine (varPut_b (u64n g) (u64n_wrap g) (zbF g) (HB.out.ext ((Ext.refl _).alloc _)) (by omega)).mono ?_
  rintro e w1 ⟨a1,c1,n1,rfl,hB1,hx1,hn1,ho1⟩
  have HB1:=hid hB1
  have HX1:=hid (((Ext.refl w).alloc _).trans hx1)
  have h0:=hx1.newBlock
  have c0:=zaa h0 0
  have f1:=zaf (T:=fun _=>false) (zaa h0 1) rfl
  clear hB1 hx1 h0
  go_wp2_with fail
  clear c0
  refine zao 4 (fun w'=>∃p:Turned,w'=turned w1 (fun _=>false) p.d p.f p.os) (.reads [0,2,3] (.one 1 (.one 4 (.one 5 .done)))) (by kernel_rfl) (by kernel_rfl) (fun _ _ dd _ _ hh=>by cases dd<;>exact hh) ?_ ?_
  ·exact zad (Ext.drewN w1 1)
  refine zak ?_
  simp only [zac,yab,yaa]
  iterate 3 (go_big_quiet_step (fail))
  refine yaF ?_
  clear f1
  refine zae ?_
  simp only [zac,yab,yaa]
  go_wp2_with fail
  refine (varPut_b 1 rfl (by decide) (HB1.out.ext (Ext.drewN w1 1)) (by omega)).mono ?_
  rintro e w2 ⟨a2,c2,n2,rfl,hB2,hx2,hn2,ho2⟩
  have HB2:=hid hB2
  have HX2:=hid ((Ext.drewN w1 1).trans hx2)
  clear hB2 hx2
  go_wp2_with fail
  refine zal (zad HX2.out) (zae ?_)
  simp only [zac,yab,yaa]
  go_wp2_with fail
  refine (zdN t ht0 ht1 HB2.out (by omega)).mono ?_
  rintro e w3 ⟨a3,c3,n3,rfl,hB3,hx3,hn3,ho3⟩
  have HB3:=hid hB3
  have HX3:=hid (HX1.out.trans (HX2.out.trans hx3))
  have HO3:=hid (fun q hq=>Nat.le_trans (HX1.out.trans HX2.out).size (ho3 q hq))
  clear ho1 ho2 ho3
  rw [HF.out] at HB3
  clear hB3 hx3
  go_wp2_with fail
  refine zau (zae ?_)
  simp only [zac,yab,yaa]
  go_wp2_with fail
  refine zau (zav ?_)
  go_wp2_with fail
  go_ret
  exact ⟨a3,c3,n3,rfl,HB3.out,HX3.out,by omega,HO3.out⟩
end
section
open Go.RowKit Go.Sort Go.Lib
def tmB (z:Int):Bool:=decide (-1152921504606846976≤z)&&decide (z≤1152921504606846976)
def mkR (m:Mk):Bool:=decide (0≤m.g)&&tmB m.g&&tmB m.t&&(m.s || decide (m.t=0))
theorem waterTime_any (z:Int) (w:World) :
 Calls Tryz.prog 102 #[.int .i64 z] w fun e w'=>e=.returned (.bool (tmB z))∧w=w':=by
 by_cases h0:-1152921504606846976≤z
 ·by_cases h1:z≤1152921504606846976
  ·have HF:Hid (tmB z=true):=hid (by simp [tmB,h0,h1])
   go_enter Tryz.func102,Tryz.ntmps102
   go_wp2_with fail
   go_ret
   rw [HF.out]
   exact ⟨rfl,rfl⟩
  ·have HF:Hid (tmB z=false):=hid (by simp [tmB,h1])
   go_enter Tryz.func102,Tryz.ntmps102
   go_wp2_with fail
   go_ret
   rw [HF.out]
   exact ⟨rfl,rfl⟩
 ·have HF:Hid (tmB z=false):=hid (by simp [tmB,h0])
  go_enter Tryz.func102,Tryz.ntmps102
  go_wp2_with fail
  go_ret
  rw [HF.out]
  exact ⟨rfl,rfl⟩
theorem zea (m:Mk) (w:World) :
 Calls Tryz.prog 59 #[m.val] w fun e w'=>e=.returned (.bool (mkR m))∧Ext w w':=by
 obtain ⟨s,t,g⟩:=m
 have HF:Hid (mkR ⟨s,t,g⟩=(decide (0≤g)&&tmB g&&tmB t&&(s || decide (t=0)))):=hid rfl
 have HB:Hid (0≤g→decide (g≤1152921504606846976)=tmB g):=hid (fun h=>by simp [tmB];omega)
 generalize mkR ⟨s,t,g⟩=R at *
 have H1:=hid (fun w=>waterTime_any g w)
 have H2:=hid (fun w=>waterTime_any t w)
 generalize tmB g=bg at *
 generalize tmB t=bt at *
 by_cases h0:0≤g
 ·have hbg:=HB.out h0
  clear HB
  cases bg
  ·have hR:Hid (R=false):=hid (by rw [HF.out];simp)
   clear HF
   clear hbg
   go_enter Tryz.func59,Tryz.ntmps59
   go_wp2_with (go_at_call 102;refine (H1.out _).mono ?_;rintro e w' ⟨rfl,rfl⟩)
   go_ret
   rw [hR.out]
   exact ⟨rfl,((Ext.refl _).alloc _).alloc _⟩
  ·clear hbg
   cases bt
   ·have hR:Hid (R=false):=hid (by rw [HF.out];simp)
    clear HF
    go_enter Tryz.func59,Tryz.ntmps59
    go_wp2_with fail
    refine (H1.out _).mono ?_
    rintro e w' ⟨rfl,rfl⟩
    go_wp2_with fail
    refine (H2.out _).mono ?_
    rintro e w' ⟨rfl,rfl⟩
    go_wp2_with fail
    go_ret
    rw [hR.out]
    exact ⟨rfl,((Ext.refl _).alloc _).alloc _⟩
   ·cases s
    ·by_cases ht:t=0
     ·subst ht
      have hR:Hid (R=true):=hid (by rw [HF.out];simp [h0])
      clear HF
      go_enter Tryz.func59,Tryz.ntmps59
      go_wp2_with fail
      refine (H1.out _).mono ?_
      rintro e w' ⟨rfl,rfl⟩
      go_wp2_with fail
      refine (H2.out _).mono ?_
      rintro e w' ⟨rfl,rfl⟩
      go_wp2_with fail
      go_ret
      rw [hR.out]
      exact ⟨rfl,((Ext.refl _).alloc _).alloc _⟩
     ·have hR:Hid (R=false):=hid (by rw [HF.out];simp [ht])
      have hte:(t==0)=false:=by simp [ht]
      clear HF ht
      go_enter Tryz.func59,Tryz.ntmps59
      go_wp2_with fail
      refine (H1.out _).mono ?_
      rintro e w' ⟨rfl,rfl⟩
      go_wp2_with fail
      refine (H2.out _).mono ?_
      rintro e w' ⟨rfl,rfl⟩
      go_wp2_with fail
      go_ret
      rw [hR.out]
      exact ⟨rfl,((Ext.refl _).alloc _).alloc _⟩
    ·have hR:Hid (R=true):=hid (by rw [HF.out];simp [h0])
     clear HF
     go_enter Tryz.func59,Tryz.ntmps59
     go_wp2_with fail
     refine (H1.out _).mono ?_
     rintro e w' ⟨rfl,rfl⟩
     go_wp2_with fail
     refine (H2.out _).mono ?_
     rintro e w' ⟨rfl,rfl⟩
     go_wp2_with fail
     go_ret
     rw [hR.out]
     exact ⟨rfl,((Ext.refl _).alloc _).alloc _⟩
 ·have hR:Hid (R=false):=hid (by rw [HF.out];simp [h0])
  clear HF HB
  go_enter Tryz.func59,Tryz.ntmps59
  go_wp2_with fail
  go_ret
  rw [hR.out]
  exact ⟨rfl,((Ext.refl _).alloc _).alloc _⟩
end
end Go.Proofs.YtlmfhjipbjkcbaaGreatDoor
