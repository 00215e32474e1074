/- x -/
import Derived.Test.YtlmfhjipbjkcbaaGreatDoorPtc
import Derived.Deep.Fields
import Derived.ProofKit
import Derived.OpenShut
set_option maxHeartbeats 8000000
set_option maxRecDepth 100000
set_option linter.unusedSimpArgs false
set_option linter.unusedVariables false
namespace Go.Proofs.YtlmfhjipbjkcbaaGreatDoor
section
open Go.RowKit Go.Sort Go.Lib Go.ChangeShapes Go.WideShapes Go.Deep
structure Sl where
 a:Option Addr
 n:Nat
 c:Nat
 l:List Pt
def Sl.v (x:Sl):Value:=.slice x.a x.n x.c
def Sl.Ok (w:World) (x:Sl):Prop:=Src w 3 x.v x.n (pts x.l)∧x.n≤x.c
theorem Sl.Ok.ext {w w':World}{x:Sl}(h:x.Ok w) (hx:Ext w w'):x.Ok w':=⟨h.1.ext hx,h.2⟩
def totS (ls:List Sl):Nat:=(ls.map fun x=>x.l.length).sum
theorem le_totS {ls:List Sl}{x:Sl}(h:x∈ls):x.l.length≤totS ls:=by
 induction ls with
 | nil=>cases h
 | cons y ls ih =>
  rcases yaq.1 h with rfl|h
  ·simp [totS]
  ·have:=ih h;simp [totS] at *;omega
theorem lists_src {w:World}{a:Option Addr}{n c:Nat}{ls:List Sl}(h:Src w 1 (.slice a n c) n (ls.map Sl.v)) {k:Nat}(hk:k<n) :
 ∃b off x,a=some ⟨b,off,none⟩∧ls[k]?=some x∧w.cell? ⟨b,off+k,none⟩=some (.slice x.a x.n x.c):=by
 rcases h with ⟨_,h,_⟩|⟨ad,c',h,hl,h2,_⟩
 ·omega
 ·simp at h
  obtain ⟨rfl,rfl⟩:=h
  have hkl:k<ls.length:=by simp at hl;omega
  have hcell:=h2 k (ls[k].v) (by simp [yac hkl])
  have hcell0:=h2 0 ((ls[0]'(by omega)).v) (by simp [yac (show 0<ls.length by omega)])
  obtain ⟨b,off,spot⟩:=ad
  have hspot:spot=none:=by simpa [Addr.add] using World.cell?_spot hcell0
  subst hspot
  refine ⟨b,off,ls[k],rfl,yac hkl,?_⟩
  rw [←yak];exact hcell
theorem lists_len {w:World}{a:Option Addr}{n c:Nat}{ls:List Sl}(h:Src w 1 (.slice a n c) n (ls.map Sl.v)):ls.length=n:=by
 rcases h with ⟨_,h,h2⟩|⟨_,_,_,h,_⟩
 ·simp at h2;rw [h2,h];rfl
 ·simpa using h
section
variable {H:Type} {enc:TypeId×Value→H} {P:Program} {w:World} {base:Nat} {spare:Nat→Bool} {held:Bool}
end
theorem totS_append (a b:List Sl):totS (a++b)=totS a+totS b:=by simp [totS]
theorem totS_take_le (ls:List Sl) (k:Nat):totS (ls.take k)≤totS ls:=by
 have:=totS_append (ls.take k) (ls.drop k)
 rw [yaS] at this;omega
theorem totS_map (ls:List Sl):((ls.map Sl.l).map List.length).sum=totS ls:=by simp [totS,Function.comp_def]
end
section
open Go.RowKit Go.Sort Go.Lib
theorem rrising_any (w:World) (a:Option Addr) (n c:Nat) (l:List Pt) (hs:Src w 3 (.slice a n c) n (pts l)) (hn:n<4611686018427387904) :
 Calls Tryz.prog 81 #[.slice a n c] w fun e w'=>e=.returned (.bool (zcN l))∧Ext w w':=by
 have HS:=hid hs
 have HLn:=hid (zbI hs);clear hs
 go_enter Tryz.func81,Tryz.ntmps81
 go_wp2_with fail
 go_loopw [3] (fun i wr=>∃k:Nat,k≤n∧i=.int .i64 ((k:Int)+1)∧Hid (Ext w wr)∧Hid (∀(i:Nat) (p q:Pt),i<k→l[i]?=some p→l[i+1]?=some q→p.t<q.t)) (fun i _=>n+1-(intOf i).toNat)
 case atStart=>exact ⟨0,by omega,rfl,hid (Ext.refl _),hid (fun i p q h=>by omega)⟩
 case round =>
  obtain ⟨k,hk,rfl,hx,I⟩:=hrel
  by_cases hlt:k+1<n
  ·obtain ⟨b,off,p,rfl,hp,c0,_,_⟩:=zbz (HS.out.ext hx.out) hlt
   obtain ⟨b',off',p',hbb,hp',d0,_,_⟩:=zbz (HS.out.ext hx.out) (show k<n by omega)
   have Hp:=hid hp;have Hp':=hid hp'
   simp at hbb
   obtain ⟨rfl,rfl⟩:=hbb
   clear hp hp'
   have hlt':(k:Int)+1<(n:Int):=by omega
   by_cases hle:p.t≤p'.t
   ·have HF:Hid (zcN l=false):=hid (by
     rw [←Bool.not_eq_true,risesB_iff]
     intro h;have:=h k p' p Hp'.out Hp.out;omega)
    go_wp2_with fail
    go_quiet (fail)
    go_wp2_with fail
    go_ret
    rw [HF.out]
    exact ⟨rfl,hx.out.trans (Ext.drewN _ _)⟩
   ·go_wp2_with fail
    go_quiet (fail)
    go_wp2_with fail
    go_roundw
    case rel =>
     refine ⟨k+1,by omega,by go_num,hid (hx.out.trans (Ext.drewN _ _)),hid (fun i x y h hx hy=>?_)⟩
     by_cases hij:i=k
     ·subst hij
      rw [Hp'.out] at hx;rw [Hp.out] at hy
      cases hx;cases hy;omega
     ·exact I.out i x y (by omega) hx hy
    case measure=>simp [intOf];omega
  ·have HF:Hid (zcN l=true):=hid (by
    rw [risesB_iff]
    intro i p q hp hq
    exact I.out i p q (by have:=(yad.1 hq).1;have:=HLn.out;omega) hp hq)
   go_wp2_with fail
   go_ret
   rw [HF.out]
   exact ⟨rfl,hx.out⟩
structure Two (a b out:List Pt):Prop where
 rises:Rises out
 best:∀p∈out,(p∈a∧∀q∈b,q.t=p.t→q.s<p.s)∨(p∈b∧∀q∈a,q.t=p.t→q.s≤p.s)
 has:∀q,q∈a∨q∈b→∃p∈out,p.t=q.t
theorem Two.nil:Two [] [] []:=⟨Rises.nil,by simp,by simp⟩
theorem Two.isMerge {a b out:List Pt}(h:Two a b out) (ha:Rises a) (hb:Rises b):IsMerge [a,b] out:=by
 refine ⟨h.rises,fun p hp=>?_,fun j m q hj hq=>?_⟩
 ·rcases h.best p hp with ⟨h1,h2⟩|⟨h1,h2⟩
  ·refine ⟨0,a,rfl,h1,fun j m q hj hq ht=>?_⟩
   match j,hj with
   | 0,hj=>simp at hj;subst hj;have:=ha.same hq h1 ht;subst this;exact .inr ⟨rfl,Nat.le_refl _⟩
   | 1,hj=>simp at hj;subst hj;exact .inl (h2 q hq ht)
   | j+2,hj=>simp at hj
  ·refine ⟨1,b,rfl,h1,fun j m q hj hq ht=>?_⟩
   match j,hj with
   | 0,hj=>simp at hj;subst hj;have:=h2 q hq ht;omega
   | 1,hj=>simp at hj;subst hj;have:=hb.same hq h1 ht;subst this;exact .inr ⟨rfl,Nat.le_refl _⟩
   | j+2,hj=>simp at hj
 ·match j,hj with
  | 0,hj=>simp at hj;subst hj;exact h.has q (.inl hq)
  | 1,hj=>simp at hj;subst hj;exact h.has q (.inr hq)
  | j+2,hj=>simp at hj
theorem Two.left {a b out:List Pt}(h:Two a b out) {p:Pt}(hp:∀q∈out,q.t<p.t):Two (a++[p]) b (out++[p]):=by
 refine ⟨h.rises.snoc hp,fun x hx=>?_,fun q hq=>?_⟩
 ·rcases yah.1 hx with hx'|hx
  ·have hxo:=hp x hx'
   rcases h.best x hx' with ⟨h1,h2⟩|⟨h1,h2⟩
   ·exact .inl ⟨yat _ h1,h2⟩
   ·refine .inr ⟨h1,fun q hq ht=>?_⟩
    rcases yah.1 hq with hq|hq
    ·exact h2 q hq ht
    ·simp at hq;subst hq;omega
  ·simp at hx;subst hx
   refine .inl ⟨by simp,fun q hq ht=>?_⟩
   obtain ⟨y,hy,hyt⟩:=h.has q (.inr hq)
   have:=hp y hy;omega
 ·rcases hq with hq|hq
  ·rcases yah.1 hq with hq|hq
   ·obtain ⟨y,hy,hyt⟩:=h.has q (.inl hq);exact ⟨y,yat _ hy,hyt⟩
   ·simp at hq;subst hq;exact ⟨q,by simp,rfl⟩
  ·obtain ⟨y,hy,hyt⟩:=h.has q (.inr hq);exact ⟨y,yat _ hy,hyt⟩
theorem Two.right {a b out:List Pt}(h:Two a b out) {p:Pt}(hp:∀q∈out,q.t<p.t):Two a (b++[p]) (out++[p]):=by
 refine ⟨h.rises.snoc hp,fun x hx=>?_,fun q hq=>?_⟩
 ·rcases yah.1 hx with hx'|hx
  ·have hxo:=hp x hx'
   rcases h.best x hx' with ⟨h1,h2⟩|⟨h1,h2⟩
   ·refine .inl ⟨h1,fun q hq ht=>?_⟩
    rcases yah.1 hq with hq|hq
    ·exact h2 q hq ht
    ·simp at hq;subst hq;omega
   ·exact .inr ⟨yat _ h1,h2⟩
  ·simp at hx;subst hx
   refine .inr ⟨by simp,fun q hq ht=>?_⟩
   obtain ⟨y,hy,hyt⟩:=h.has q (.inl hq)
   have:=hp y hy;omega
 ·rcases hq with hq|hq
  ·obtain ⟨y,hy,hyt⟩:=h.has q (.inl hq);exact ⟨y,yat _ hy,hyt⟩
  ·rcases yah.1 hq with hq|hq
   ·obtain ⟨y,hy,hyt⟩:=h.has q (.inr hq);exact ⟨y,yat _ hy,hyt⟩
   ·simp at hq;subst hq;exact ⟨q,by simp,rfl⟩
theorem Two.both {a b out:List Pt}(h:Two a b out) {x y z:Pt}(hxy:x.t=y.t) (hp:∀q∈out,q.t<x.t) (hz:(z=x∧y.s<x.s)∨(z=y∧x.s≤y.s)):Two (a++[x]) (b++[y]) (out++[z]):=by
 have hzt:z.t=x.t:=by rcases hz with ⟨rfl,_⟩|⟨rfl,_⟩<;>simp [hxy]
 refine ⟨h.rises.snoc (fun q hq=>by have:=hp q hq;omega),fun u hu=>?_,fun q hq=>?_⟩
 ·rcases yah.1 hu with hu|hu
  ·have hut:=hp u hu
   rcases h.best u hu with ⟨h1,h2⟩|⟨h1,h2⟩
   ·refine .inl ⟨yat _ h1,fun q hq ht=>?_⟩
    rcases yah.1 hq with hq|hq
    ·exact h2 q hq ht
    ·simp at hq;subst hq;omega
   ·refine .inr ⟨yat _ h1,fun q hq ht=>?_⟩
    rcases yah.1 hq with hq|hq
    ·exact h2 q hq ht
    ·simp at hq;subst hq;omega
  ·simp at hu;subst hu
   rcases hz with ⟨rfl,hs⟩|⟨rfl,hs⟩
   ·refine .inl ⟨by simp,fun q hq ht=>?_⟩
    rcases yah.1 hq with hq|hq
    ·obtain ⟨v,hv,hvt⟩:=h.has q (.inr hq);have:=hp v hv;omega
    ·simp at hq;subst hq;exact hs
   ·refine .inr ⟨by simp,fun q hq ht=>?_⟩
    rcases yah.1 hq with hq|hq
    ·obtain ⟨v,hv,hvt⟩:=h.has q (.inl hq);have:=hp v hv;omega
    ·simp at hq;subst hq;exact hs
 ·have key:∀q,(q∈a∨q∈b)→∃p∈out++[z],p.t=q.t:=fun q hq=>by
   obtain ⟨v,hv,hvt⟩:=h.has q hq;exact ⟨v,yat _ hv,hvt⟩
  rcases hq with hq|hq
  ·rcases yah.1 hq with hq|hq
   ·exact key q (.inl hq)
   ·simp at hq;subst hq;exact ⟨z,by simp,hzt⟩
  ·rcases yah.1 hq with hq|hq
   ·exact key q (.inr hq)
   ·simp at hq;subst hq;exact ⟨z,by simp,by omega⟩
structure TwoAt (a b out:List Pt) (i k:Nat):Prop where
 two:Two (a.take i) (b.take k) out
 la:∀p∈out,∀(j:Nat) (q:Pt),i≤j→a[j]?=some q→p.t<q.t
 lb:∀p∈out,∀(j:Nat) (q:Pt),k≤j→b[j]?=some q→p.t<q.t
 len:out.length≤i+k
theorem TwoAt.start (a b:List Pt):TwoAt a b [] 0 0:=⟨by simpa using Two.nil,by simp,by simp,by simp⟩
theorem rises_le {b:List Pt}(hb:Rises b) {k j:Nat}{x y:Pt}(hx:b[k]?=some x) (hy:b[j]?=some y) (h:k≤j):x.t≤y.t:=by
 rcases Nat.lt_or_ge k j with h'|h'
 ·have:=hb.at hx hy h';omega
 ·obtain rfl:k=j:=by omega
  rw [hx] at hy;cases hy;exact Int.le_refl _
theorem TwoAt.left {a b out:List Pt}{i k:Nat}{x:Pt}(h:TwoAt a b out i k) (ha:Rises a) (hb:Rises b) (hx:a[i]?=some x) (hlt:∀y,b[k]?=some y→x.t<y.t):TwoAt a b (out++[x]) (i+1) k:=by
 have hlo:∀q∈out,q.t<x.t:=fun q hq=>h.la q hq i x (Nat.le_refl _) hx
 refine ⟨by rw [zbS hx];exact h.two.left hlo,fun p hp j q hj hq=>?_,fun p hp j q hj hq=>?_,by have:=h.len;simp;omega⟩
 ·rcases yah.1 hp with hp|hp
  ·exact h.la p hp j q (by omega) hq
  ·simp at hp;subst hp;exact ha.at hx hq (by omega)
 ·rcases yah.1 hp with hp|hp
  ·exact h.lb p hp j q hj hq
  ·simp at hp;subst hp
   have hjl:=(yad.1 hq).1
   have hk:b[k]?=some (b[k]'(by omega)):=yac (by omega)
   have h1:=hlt _ hk
   have h2:=rises_le hb hk hq hj
   omega
theorem TwoAt.right {a b out:List Pt}{i k:Nat}{y:Pt}(h:TwoAt a b out i k) (ha:Rises a) (hb:Rises b) (hy:b[k]?=some y) (hlt:∀x,a[i]?=some x→y.t<x.t):TwoAt a b (out++[y]) i (k+1):=by
 have hlo:∀q∈out,q.t<y.t:=fun q hq=>h.lb q hq k y (Nat.le_refl _) hy
 refine ⟨by rw [zbS hy];exact h.two.right hlo,fun p hp j q hj hq=>?_,fun p hp j q hj hq=>?_,by have:=h.len;simp;omega⟩
 ·rcases yah.1 hp with hp|hp
  ·exact h.la p hp j q hj hq
  ·simp at hp;subst hp
   have hjl:=(yad.1 hq).1
   have hi:a[i]?=some (a[i]'(by omega)):=yac (by omega)
   have h1:=hlt _ hi
   have h2:=rises_le ha hi hq hj
   omega
 ·rcases yah.1 hp with hp|hp
  ·exact h.lb p hp j q (by omega) hq
  ·simp at hp;subst hp;exact hb.at hy hq (by omega)
theorem TwoAt.both {a b out:List Pt}{i k:Nat}{x y z:Pt}(h:TwoAt a b out i k) (ha:Rises a) (hb:Rises b) (hx:a[i]?=some x) (hy:b[k]?=some y) (hxy:x.t=y.t) (hz:(z=x∧y.s<x.s)∨(z=y∧x.s≤y.s)):TwoAt a b (out++[z]) (i+1) (k+1):=by
 have hlo:∀q∈out,q.t<x.t:=fun q hq=>h.la q hq i x (Nat.le_refl _) hx
 have hzt:z.t=x.t:=by rcases hz with ⟨rfl,_⟩|⟨rfl,_⟩<;>simp [hxy]
 refine ⟨by rw [zbS hx,zbS hy];exact h.two.both hxy hlo hz,fun p hp j q hj hq=>?_,fun p hp j q hj hq=>?_,by have:=h.len;simp;omega⟩
 ·rcases yah.1 hp with hp|hp
  ·exact h.la p hp j q (by omega) hq
  ·simp at hp;subst hp;have:=ha.at hx hq (by omega);omega
 ·rcases yah.1 hp with hp|hp
  ·exact h.lb p hp j q (by omega) hq
  ·simp at hp;subst hp;have:=hb.at hy hq (by omega);omega
theorem two_any (w:World) (a b:Option Addr) (n c m d:Nat) (l k:List Pt) (hl:Src w 3 (.slice a n c) n (pts l)) (hk:Src w 3 (.slice b m d) m (pts k)) (hn:n+m<4398046511104) (rl:Rises l) (rk:Rises k) :
 Calls Tryz.prog 82 #[.slice a n c,.slice b m d] w fun e w'=>∃v out,e=.returned v∧CutTo w out v w'∧IsMerge [l,k] out∧out.length≤n+m:=by
 have HL:=hid hl;have HK:=hid hk
 have Ln:=hid (zbI hl);have Km:=hid (zbI hk)
 have RL:=hid rl;have RK:=hid rk
 clear hl hk rl rk
 go_enter Tryz.func82,Tryz.ntmps82
 go_wp2_with fail
 go_loopw [5,6,7] (fun s5 s6 s7 wr=>∃(i j on:Nat) (oa:Option Addr) (oc:Nat) (out:List Pt),s5=.slice oa on oc∧s6=.int .i64 i∧s7=.int .i64 j∧i≤n∧j≤m∧on≤i+j∧Hid (on=out.length∧CutTo w out (.slice oa on oc) wr∧TwoAt l k out i j)) (fun _ s6 s7 _=>(n-(intOf s6).toNat)+(m-(intOf s7).toNat))
 case atStart=>exact ⟨0,0,0,none,0,[],rfl,rfl,rfl,by omega,by omega,by omega,hid ⟨rfl,CutTo.nil _,TwoAt.start _ _⟩⟩
 case round =>
  obtain ⟨i,j,on,oa,oc,out,rfl,rfl,rfl,hi,hj,hon,I⟩:=hrel
  by_cases hin:i<n
  ·obtain ⟨xb,xo,x,hxa,hx,x0,x1,x2⟩:=zbz (HL.out.ext I.out.2.1.ext) hin
   have HX:=hid hx;clear hx
   subst hxa
   by_cases hjm:j<m
   ·obtain ⟨yb,yo,y,hya,hy,y0,y1,y2⟩:=zbz (HK.out.ext I.out.2.1.ext) hjm
    have HY:=hid hy;clear hy
    subst hya
    have hb1:((j:Int)==(m:Int))=false:=by rw [yam];omega
    have hb2:((i:Int)==(n:Int))=false:=by rw [yam];omega
    rcases Int.lt_trichotomy x.t y.t with hlt|heq|hgt
    ·go_wp2_with fail
     go_quiet (fail)
     go_wp2_with (at_builtin;go_must (refine zah (n:=out.length) (m:=1) zdi rfl _ _ rfl (v:=.slice _ _ _) rfl rfl ((I.out.2.1.row.ext (Ext.drewN _ _)).alloc _) (src_pt' (p:=x) (heap_alloc_new _ _)) (by unfold maxLen;have:=I.out.1;omega) (by have:=I.out.1;omega) ?_;intro v' w3 happ);have K:=hid (I.out.2.1.snoc ((Ext.drewN _ _).alloc _) happ);obtain ⟨oa',oc',rfl⟩:=happ.row.shape;clear happ)
     go_roundw
     case rel=>exact ⟨i+1,j,out.length+1,oa',oc',_,rfl,by go_num,by go_num,by omega,by omega,by have:=I.out.1;omega,hid ⟨by simp,K.out,I.out.2.2.left RL.out RK.out HX.out (fun z hz=>by rw [HY.out] at hz;cases hz;exact hlt)⟩⟩
     case measure=>simp [intOf];omega
    ·have h1:¬x.t<y.t:=by omega
     have h2:¬y.t<x.t:=by omega
     have HEQ:=hid heq
     clear heq
     by_cases hs:y.s<x.s
     ·go_wp2_with fail
      go_quiet (fail)
      go_wp2_with fail
      go_quiet (fail)
      go_wp2_with fail
      go_quiet (fail)
      go_wp2_with (at_builtin;go_must (refine zah (n:=out.length) (m:=1) zdi rfl _ _ rfl (v:=.slice _ _ _) rfl rfl ((I.out.2.1.row.ext (Ext.drewN _ _)).alloc _) (src_pt' (p:=x) (heap_alloc_new _ _)) (by unfold maxLen;have:=I.out.1;omega) (by have:=I.out.1;omega) ?_;intro v' w3 happ);have K:=hid (I.out.2.1.snoc ((Ext.drewN _ _).alloc _) happ);obtain ⟨oa',oc',rfl⟩:=happ.row.shape;clear happ)
      go_roundw
      case rel=>exact ⟨i+1,j+1,out.length+1,oa',oc',_,rfl,by go_num,by go_num,by omega,by omega,by have:=I.out.1;omega,hid ⟨by simp,K.out,I.out.2.2.both RL.out RK.out HX.out HY.out HEQ.out (.inl ⟨rfl,hs⟩)⟩⟩
      case measure=>simp [intOf];omega
     ·go_wp2_with fail
      go_quiet (fail)
      go_wp2_with fail
      go_quiet (fail)
      go_wp2_with fail
      go_quiet (fail)
      go_wp2_with (at_builtin;go_must (refine zah (n:=out.length) (m:=1) zdi rfl _ _ rfl (v:=.slice _ _ _) rfl rfl ((I.out.2.1.row.ext (Ext.drewN _ _)).alloc _) (src_pt' (p:=y) (heap_alloc_new _ _)) (by unfold maxLen;have:=I.out.1;omega) (by have:=I.out.1;omega) ?_;intro v' w3 happ);have K:=hid (I.out.2.1.snoc ((Ext.drewN _ _).alloc _) happ);obtain ⟨oa',oc',rfl⟩:=happ.row.shape;clear happ)
      go_roundw
      case rel=>exact ⟨i+1,j+1,out.length+1,oa',oc',_,rfl,by go_num,by go_num,by omega,by omega,by have:=I.out.1;omega,hid ⟨by simp,K.out,I.out.2.2.both RL.out RK.out HX.out HY.out HEQ.out (.inr ⟨rfl,by omega⟩)⟩⟩
      case measure=>simp [intOf];omega
    ·have h1:¬x.t<y.t:=by omega
     go_wp2_with fail
     go_quiet (fail)
     go_wp2_with fail
     go_quiet (fail)
     go_wp2_with (at_builtin;go_must (refine zah (n:=out.length) (m:=1) zdi rfl _ _ rfl (v:=.slice _ _ _) rfl rfl ((I.out.2.1.row.ext (Ext.drewN _ _)).alloc _) (src_pt' (p:=y) (heap_alloc_new _ _)) (by unfold maxLen;have:=I.out.1;omega) (by have:=I.out.1;omega) ?_;intro v' w3 happ);have K:=hid (I.out.2.1.snoc ((Ext.drewN _ _).alloc _) happ);obtain ⟨oa',oc',rfl⟩:=happ.row.shape;clear happ)
     go_roundw
     case rel=>exact ⟨i,j+1,out.length+1,oa',oc',_,rfl,by go_num,by go_num,by omega,by omega,by have:=I.out.1;omega,hid ⟨by simp,K.out,I.out.2.2.right RL.out RK.out HY.out (fun z hz=>by rw [HX.out] at hz;cases hz;exact hgt)⟩⟩
     case measure=>simp [intOf];omega
   ·obtain rfl:j=m:=by omega
    go_wp2_with fail
    go_quiet (fail)
    go_wp2_with (at_builtin;go_must (refine zah (n:=out.length) (m:=1) zdi rfl _ _ rfl (v:=.slice _ _ _) rfl rfl ((I.out.2.1.row.ext (Ext.drewN _ _)).alloc _) (src_pt' (p:=x) (heap_alloc_new _ _)) (by unfold maxLen;have:=I.out.1;omega) (by have:=I.out.1;omega) ?_;intro v' w3 happ);have K:=hid (I.out.2.1.snoc ((Ext.drewN _ _).alloc _) happ);obtain ⟨oa',oc',rfl⟩:=happ.row.shape;clear happ)
    go_roundw
    case rel=>exact ⟨i+1,j,out.length+1,oa',oc',_,rfl,by go_num,by go_num,by omega,by omega,by have:=I.out.1;omega,hid ⟨by simp,K.out,I.out.2.2.left RL.out RK.out HX.out (fun z hz=>by have:=(yad.1 hz).1;have:=Km.out;omega)⟩⟩
    case measure=>simp [intOf];omega
  ·obtain rfl:i=n:=by omega
   by_cases hjm:j<m
   ·obtain ⟨yb,yo,y,hya,hy,y0,y1,y2⟩:=zbz (HK.out.ext I.out.2.1.ext) hjm
    have HY:=hid hy;clear hy
    subst hya
    have hb1:((j:Int)==(m:Int))=false:=by rw [yam];omega
    go_wp2_with fail
    go_quiet (fail)
    go_wp2_with fail
    go_quiet (fail)
    go_wp2_with (at_builtin;go_must (refine zah (n:=out.length) (m:=1) zdi rfl _ _ rfl (v:=.slice _ _ _) rfl rfl ((I.out.2.1.row.ext (Ext.drewN _ _)).alloc _) (src_pt' (p:=y) (heap_alloc_new _ _)) (by unfold maxLen;have:=I.out.1;omega) (by have:=I.out.1;omega) ?_;intro v' w3 happ);have K:=hid (I.out.2.1.snoc ((Ext.drewN _ _).alloc _) happ);obtain ⟨oa',oc',rfl⟩:=happ.row.shape;clear happ)
    go_roundw
    case rel=>exact ⟨i,j+1,out.length+1,oa',oc',_,rfl,by go_num,by go_num,by omega,by omega,by have:=I.out.1;omega,hid ⟨by simp,K.out,I.out.2.2.right RL.out RK.out HY.out (fun z hz=>by have:=(yad.1 hz).1;have:=Ln.out;omega)⟩⟩
    case measure=>simp [intOf];omega
   ·obtain rfl:j=m:=by omega
    go_wp2_with fail
    go_ret
    refine ⟨_,out,rfl,I.out.2.1,?_,by have:=I.out.1;omega⟩
    have h:=I.out.2.2.two
    rw [yai (by rw [Ln.out];exact Nat.le_refl _),yai (by rw [Km.out];exact Nat.le_refl _)] at h
    exact h.isMerge RL.out RK.out
def RefMerged (w:World) (ls:List (List Pt)) (e:Ending) (w':World):Prop :=
 Ext w w'∧(((∀l∈ls,Rises l)∧∃(va:Option Addr) (vc:Nat) (out:List Pt),e=.returned (.tuple #[.slice va out.length vc,.int .i64 0])∧CutTo w out (.slice va out.length vc) w'∧IsMerge ls out∧out.length≤(ls.map List.length).sum) ∨
  ((¬∀l∈ls,Rises l)∧e=.returned (.tuple #[.slice none 0 0,.int .i64 2])))
def RefRel (w:World) (n:Nat) (ls:List Sl) (s4 s5:Value) (wr:World):Prop:=∃(k on:Nat) (oa:Option Addr) (oc:Nat) (out:List Pt),s4=.slice oa on oc∧s5=.int .i64 k∧k≤n∧on≤totS ls ∧
 Hid (on=out.length∧CutTo w out (.slice oa on oc) wr∧IsMerge ((ls.take k).map Sl.l) out∧(∀x∈ls.take k,Rises x.l)∧out.length≤totS (ls.take k))
def TwoSaid (w:World) (l k:List Pt) (N:Nat) (e:Ending) (w':World):Prop:=∃v out,e=.returned v∧CutTo w out v w'∧IsMerge [l,k] out∧out.length≤N
theorem refMerge_any (w:World) (a:Option Addr) (n c:Nat) (ls:List Sl) (hs:Src w 1 (.slice a n c) n (ls.map Sl.v)) (hok:∀x∈ls,x.Ok w) (hN:n+totS ls<4000) :
 Calls Tryz.prog 47 #[.slice a n c] w (RefMerged w (ls.map Sl.l)):=by
 have HS:=hid hs
 have HO:=hid hok
 have HLn:=hid (lists_len hs)
 clear hs hok
 go_enter Tryz.func47,Tryz.ntmps47
 go_wp2_with fail
 go_loopw [4,5] (fun s4 s5 wr=>RefRel w n ls s4 s5 wr) (fun _ s5 _=>n-(intOf s5).toNat)
 case atStart=>exact ⟨0,0,none,0,[],rfl,rfl,by omega,by omega,hid ⟨rfl,CutTo.nil _,by simpa using IsMerge.nil,by simp,by simp⟩⟩
 case round =>
  obtain ⟨k,on,oa,oc,out,rfl,rfl,hk,hon,I⟩:=hrel
  by_cases hlt:k<n
  ·obtain ⟨lb,lo,x,rfl,hxi,l0⟩:=lists_src (HS.out.ext I.out.2.1.ext) hlt
   have XI:=hid hxi
   have HT:=hid (zbS hxi)
   have XO:=hid ((HO.out x (yag hxi)).ext I.out.2.1.ext)
   have HXL:=hid (zbI XO.out.1)
   have hxn:x.n<4000:=by
    have h1:=le_totS (yag hxi)
    have h2:=HXL.out
    omega
   have lw:=yaf wr _ l0
   clear hxi
   go_wp2_with fail
   refine (rrising_any wr x.a x.n x.c x.l XO.out.1 (by omega)).mono ?_
   rintro e w1 ⟨rfl,hx1⟩
   have HX1:=hid hx1;clear hx1
   cases hr:zcN x.l
   ·have HR:Hid (¬∀l∈ls.map Sl.l,Rises l):=hid (fun h=>by
     have:=h x.l (yap.2 ⟨x,yag XI.out,rfl⟩)
     rw [←rises_iff,hr] at this;cases this)
    clear hr
    go_wp2_with fail
    go_ret2
    exact ⟨I.out.2.1.ext.trans HX1.out,.inr ⟨HR.out,rfl⟩⟩
   ·have HR:Hid (Rises x.l):=hid ((rises_iff _).1 hr)
    clear hr
    replace l0:=(HX1.out.cell (p:=⟨lb,lo+k,none⟩) lw).trans l0
    go_wp2_with fail
    have hsr:=row_src (I.out.2.1.row.ext HX1.out)
    rw [←I.out.1] at hsr
    refine (two_any w1 oa x.a on oc x.n x.c out x.l hsr (XO.out.1.ext HX1.out) (by omega) I.out.2.2.1.rises HR.out).mono ?_
    rintro e w2 h2
    replace h2:TwoSaid w1 out x.l (on+x.n) e w2:=h2
    obtain ⟨v2,o2,rfl,hc2,hm2,hl2⟩:=h2
    obtain ⟨va,vc,rfl⟩:=hc2.row.shape
    have K:Hid (CutTo w o2 (.slice va o2.length vc) w2):=hid ⟨hc2.row,fun g hg=>Nat.le_trans (I.out.2.1.ext.trans HX1.out).size (hc2.own g hg),(I.out.2.1.ext.trans HX1.out).trans hc2.ext⟩
    have M2:=hid hm2;have L2:=hid hl2
    clear hc2 hm2 hl2 hsr l0
    go_wp2_with fail
    go_roundw
    case rel =>
     have e1:ls.take (k+1)=ls.take k++[x]:=HT.out
     have hlen:o2.length≤totS (ls.take (k+1)):=by
      have h1:=L2.out;have h2:=I.out.1;have h3:=I.out.2.2.2.2;have h4:=HXL.out
      rw [e1,totS_append];simp [totS] at h3 ⊢;omega
     refine ⟨k+1,o2.length,va,vc,o2,rfl,by go_num,by omega,by have:=totS_take_le ls (k+1);omega,hid ⟨rfl,K.out,?_,?_,hlen⟩⟩
     ·rw [e1,yav]
      exact IsMerge.append I.out.2.2.1 (IsMerge.single HR.out) M2.out
     ·rw [e1];intro y hy
      rcases yah.1 hy with hy|hy
      ·exact I.out.2.2.2.1 y hy
      ·simp at hy;subst hy;exact HR.out
    case measure=>simp [intOf];omega
  ·obtain rfl:k=n:=by omega
   have hall:ls.take k=ls:=yai (by rw [HLn.out];exact Nat.le_refl _)
   have HA:=hid hall;clear hall
   go_wp2_with fail
   go_ret2
   obtain ⟨h1,h2,h3,h4,h5⟩:=I.out
   rw [HA.out] at h3 h4 h5
   subst h1
   exact ⟨h2.ext,.inl ⟨fun l hl=>by obtain ⟨x,hx,rfl⟩:=yap.1 hl;exact h4 x hx,oa,oc,out,rfl,h2,h3,by rw [totS_map];exact h5⟩⟩
end
section
open Go.RowKit Go.Sort Go.Lib
theorem refCut_any (w:World) (a:Option Addr) (n c:Nat) (f t:Int) (l:List Pt) (hl:Src w 3 (.slice a n c) n (pts l)) (hn:n<4398046511104) :
 Calls Tryz.prog 46 #[.slice a n c,.int .i64 f,.int .i64 t] w fun e w'=>∃v,e=.returned v∧CutTo w (cutL f t l) v w':=by
 have HL:=hid hl
 have Ln:=hid (zbI hl)
 clear hl
 go_enter Tryz.func46,Tryz.ntmps46
 go_wp2_with fail
 go_loopw [8,7] (fun i s7 wr=>∃(j:Nat) (oa:Option Addr) (oc on:Nat),j≤n∧i=.int .i64 j∧s7=.slice oa on oc∧on≤j∧Hid (on=(cutL f t (l.take j)).length∧CutTo w (cutL f t (l.take j)) (.slice oa on oc) wr)) (fun i _ _=>n-(intOf i).toNat)
 case atStart=>exact ⟨0,none,0,0,by omega,rfl,rfl,by omega,hid ⟨by simp [cutL],by simpa [cutL] using CutTo.nil w⟩⟩
 case round =>
  obtain ⟨j,oa,oc,on,hj,rfl,rfl,hon,I⟩:=hrel
  by_cases hlt:j<n
  ·obtain ⟨pb,po,p,rfl,hp,p0,p1,p2⟩:=zbz (HL.out.ext I.out.2.ext) hlt
   have HT:=hid (zbS hp)
   clear hp
   have HC:=hid (cutL_snoc f t (l.take j) p)
   by_cases hin:f≤p.t∧p.t<t
   ·obtain ⟨h1,h2⟩:=hin
    have HC':Hid (cutL f t (l.take (j+1))=cutL f t (l.take j)++[p]):=hid (by rw [HT.out,HC.out,if_pos ⟨h1,h2⟩])
    go_wp2_with (at_builtin;go_must (refine zah (m:=1) zdi rfl _ _ rfl (v:=.slice _ _ _) rfl rfl (I.out.2.row.alloc _) (src_pt' (p:=p) (heap_alloc_new _ _)) (by unfold maxLen;have:=I.out.1;omega) (by have:=I.out.1;omega) ?_;intro v' w3 happ);have K:=hid (I.out.2.snoc ((Ext.refl _).alloc _) happ);obtain ⟨oa',oc',rfl⟩:=happ.row.shape;clear happ)
    go_roundw
    case rel=>exact ⟨j+1,oa',oc',_,by omega,by go_num,rfl,by have:=I.out.1;omega,hid (by rw [HC'.out];exact ⟨by simp,K.out⟩)⟩
    case measure=>simp [intOf];omega
   ·have HC':Hid (cutL f t (l.take (j+1))=cutL f t (l.take j)):=hid (by rw [HT.out,HC.out,if_neg hin])
    by_cases h1:f≤p.t
    ·have h2:¬p.t<t:=fun h=>hin ⟨h1,h⟩
     go_wp2_with fail
     go_roundw
     case rel=>exact ⟨j+1,oa,oc,on,by omega,by go_num,rfl,by omega,hid (by rw [HC'.out];exact ⟨I.out.1,I.out.2⟩)⟩
     case measure=>simp [intOf];omega
    ·go_wp2_with fail
     go_roundw
     case rel=>exact ⟨j+1,oa,oc,on,by omega,by go_num,rfl,by omega,hid (by rw [HC'.out];exact ⟨I.out.1,I.out.2⟩)⟩
     case measure=>simp [intOf];omega
  ·have HF:Hid (l.take j=l):=hid (yai (by have:=Ln.out;omega))
   go_wp2_with fail
   go_ret
   refine ⟨_,rfl,?_⟩
   have:=I.out.2;rw [HF.out] at this;exact this
end
end Go.Proofs.YtlmfhjipbjkcbaaGreatDoor
