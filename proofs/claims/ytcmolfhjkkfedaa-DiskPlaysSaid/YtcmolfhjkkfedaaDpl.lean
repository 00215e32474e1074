/- DiskPlays: both disks side by side; the walk of the law. -/
import Derived.Test.YtcmolfhjkkfedaaDip
import Derived.Test.YtcmolfhjkkfedaaOda
import Derived.Deep.DeepCutAuto
import Derived.Deep.CutBlock
import Derived.Test.YtcmolfhjkkfedaaLasts0
namespace Go.Proofs.Ytcmolfhjkkfedaa
open Go.RowKit Go.Sort Go.Lib

/-- Both disks. -/
structure PlI (w : World) (d rd : Nat) (S S' : DiskS) (B BR : List Nat) (wr : World) : Prop where
  x : DiskAt wr d S B
  y : RkAt wr rd S' BR
  ap : ∀ b ∈ B, b ∉ BR
  bx : ∀ b ∈ B, w.heap.size ≤ b
  by' : ∀ b ∈ BR, w.heap.size ≤ b
  ext : Ext w wr
theorem PlI.next {w : World} {d rd : Nat} {S S' : DiskS} {B BR : List Nat} {wr w1 : World} (h : PlI w d rd S S' B BR wr) (hx : Ext wr w1) : PlI w d rd S S' B BR w1 :=
  ⟨h.x.ext hx, h.y.ext hx, h.ap, h.bx, h.by', h.ext.trans hx⟩
theorem PlI.stepX {w : World} {d rd : Nat} {S S' S2 : DiskS} {B BR : List Nat} {wr w1 : World} (h : PlI w d rd S S' B BR wr) (t : DiskTo wr d B S2 w1) : ∃ B2, PlI w d rd S2 S' B2 BR w1 := by
  obtain ⟨B2, h1, h2, h3⟩ := t
  refine ⟨B2, h1, h.y.chg h2 (fun b hb e => h.ap b e hb), fun b hb hr => ?_, fun b hb => ?_, h.by', ((Chg.of_ext (S := (· ∈ B)) h.ext).trans h2 (fun _ _ e => e)).ext (fun i hi e => by have := h.bx i e; omega)⟩
  · rcases h3 b hb with e | e
    · exact h.ap b e hr
    · have := h.y.lt b hr; omega
  · rcases h3 b hb with e | e
    · exact h.bx b e
    · have := h.ext.size; omega
theorem PlI.stepY {w : World} {d rd : Nat} {S S' S2 : DiskS} {B BR : List Nat} {wr w1 : World} (h : PlI w d rd S S' B BR wr) (t : RkEnd wr rd BR S2 w1) : ∃ B2, PlI w d rd S S2 B B2 w1 := by
  obtain ⟨B2, h1, h2, h3⟩ := t
  refine ⟨B2, h.x.chg h2 (fun b hb e => h.ap b hb e), h1, fun b hb hr => ?_, h.bx, fun b hb => ?_, ((Chg.of_ext (S := (· ∈ BR)) h.ext).trans h2 (fun _ _ e => e)).ext (fun i hi e => by have := h.by' i e; omega)⟩
  · rcases h3 b hr with e | e
    · exact h.ap b hb e
    · have := h.x.lt b hb; omega
  · rcases h3 b hb with e | e
    · exact h.by' b e
    · have := h.ext.size; omega
theorem PlI.newX {w : World} {d rd dn : Nat} {S S' S2 : DiskS} {B BR B2 : List Nat} {wr w1 : World} (h : PlI w d rd S S' B BR wr) (t : DiskAt w1 dn S2 B2) (hx : Ext wr w1) (hb : ∀ b ∈ B2, wr.heap.size ≤ b) : PlI w dn rd S2 S' B2 BR w1 :=
  ⟨t, h.y.ext hx, fun b h2 hr => by have := hb b h2; have := h.y.lt b hr; omega, fun b h2 => by have := hb b h2; have := h.ext.size; omega, h.by', h.ext.trans hx⟩
theorem PlI.newY {w : World} {d rd rn : Nat} {S S' S2 : DiskS} {B BR B2 : List Nat} {wr w1 : World} (h : PlI w d rd S S' B BR wr) (t : RkAt w1 rn S2 B2) (hx : Ext wr w1) (hb : ∀ b ∈ B2, wr.heap.size ≤ b) : PlI w d rn S S2 B B2 w1 :=
  ⟨h.x.ext hx, t, fun b h2 hr => by have := hb b hr; have := h.x.lt b h2; omega, h.bx, fun b h2 => by have := hb b h2; have := h.ext.size; omega, h.ext.trans hx⟩

/-- Both disks, in a round. -/
def PlR (w : World) (d rd j : Nat) (wr : World) : Prop := ∃ S B BR, PlI w d rd S S B BR wr ∧ DInv S j
/-- The box of an act. -/
structure DaBox (w : World) (q : Da) (xb : Nat) (a : Option Addr) (n : Nat) (l : List UInt8) (wr : World) : Prop where
  box : wr.heap[xb]? = some (.cells #[.int .i64 q.k, .string q.nm, .string q.to, .slice a n q.bc, .int .i64 q.n, .int .u32 (q.b : Int), .slice q.ka q.kn q.kc] 34 (0, 0))
  src : Src w 1 (.slice a n q.bc) n (u8s l)
  few : n ≤ 2000

theorem DaBox.chg {w : World} {q : Da} {xb : Nat} {a : Option Addr} {n : Nat} {l : List UInt8} {wr w1 : World} {T : Nat → Prop} (h : DaBox w q xb a n l wr) (hc : Chg T wr w1) (hn : ¬ T xb) : DaBox w q xb a n l w1 :=
  ⟨(hc.block xb (block_lt h.box) hn).trans h.box, h.src, h.few⟩
theorem DaBox.ext {w : World} {q : Da} {xb : Nat} {a : Option Addr} {n : Nat} {l : List UInt8} {wr w1 : World} (h : DaBox w q xb a n l wr) (hc : Ext wr w1) : DaBox w q xb a n l w1 := h.chg (Chg.of_ext (S := fun _ => False) hc) id
theorem RkAt.left {w : World} {rd : Nat} {S : DiskS} {B : List Nat} (h : RkAt w rd S B) (m : Int) : RkAt (w.setCell ⟨rd, 1, none⟩ (.int .i64 m)) rd { S with left := m } B ∧ w.cell? ⟨rd, 1, none⟩ = some (.int .i64 S.left) ∧ w.frozen? ⟨rd, 1, none⟩ = false ∧ rd ∈ B := by
  obtain ⟨L, la, lc, h1, h2, h3, rfl⟩ := h
  refine ⟨⟨L, la, lc, h1.head (setCell_chg _ _ _ _) ?_, h2, h3, rfl⟩, h1.head0.2.1, free_of_block h1.blk 1, rfoot_head _ _ _⟩
  have := setCell_block (i := 1) h1.blk (.int .i64 m)
  simpa using this
theorem RkAt.sort {w : World} {rd : Nat} {S : DiskS} {B : List Nat} (h : RkAt w rd S B) : ∃ D, SortF D S.files := by
  obtain ⟨L, la, lc, h1, h2, h3, rfl⟩ := h
  exact ⟨_, h2⟩

theorem rkAt_used {w : World} {rd : Nat} {S : DiskS} {B : List Nat} (ok : S.Ok) (h : RkAt w rd S B) : Calls Try.prog 18 #[.pointer (some ⟨rd, 0, none⟩)] w fun e w' => e = .returned (.int .i64 S.used) ∧ w = w' := by
  obtain ⟨L, la, lc, h1, h2, h3, rfl⟩ := h
  have hlen : L.length ≤ 512 := by have := ok.few; have := h2.len; rw [rdata_len] at this; omega
  rw [h3]
  exact rk_used h1 (by have := ok.used1; have := ok.room1; omega) (by omega)
theorem rkAt_ops {w : World} {rd : Nat} {S : DiskS} {B : List Nat} (h : RkAt w rd S B) : w.cell? ⟨rd, 2, none⟩ = some (.int .i64 S.ops) := by
  obtain ⟨L, la, lc, h1, h2, h3, rfl⟩ := h
  exact h1.head0.2.2

set_option maxHeartbeats 4000000 in
theorem texts10 {w : World} {a b : Option Addr} {n c c2 : Nat} {l : List ByteArray} (ha : Src w 1 (.slice a n c) n (strs l)) (hb : Src w 1 (.slice b n c2) n (strs l)) (hn : n ≤ 1000000) (hl : l.length = n) :
    Calls Try.prog 20 #[.slice a n c, .slice b n c2] w fun e w' => e = .returned (.bool true) ∧ Ext w w' := by
  have HA := Lib.hid ha
  have HB := Lib.hid hb
  have HL := Lib.hid hl
  have hnn : ((n : Int) != (n : Int)) = false := bne_self_eq_false _
  clear ha hb hl
  go_enter Try.func20, Try.ntmps20
  go_wp2_with fail
  go_loopw [5] (fun s5 wr => ∃ k : Nat, s5 = .int .i64 k ∧ k ≤ n ∧ Hid (Ext w wr)) (fun s5 _ => n - (RowKit.intOf s5).toNat)
  case atStart => exact ⟨0, rfl, by omega, Lib.hid (Ext.refl _)⟩
  case round =>
    obtain ⟨k, rfl, hk, HX⟩ := hrel
    by_cases hlt : k < n
    · obtain ⟨s, hs⟩ : ∃ s, l[k]? = some s := ⟨_, List.getElem?_eq_getElem (by have := HL.out; omega)⟩
      obtain ⟨b1, o1, s1, rfl, hs1, q1⟩ := strs_src (HA.out.ext HX.out) hlt
      obtain ⟨b2, o2, s2, rfl, hs2, q2⟩ := strs_src (HB.out.ext HX.out) hlt
      rw [hs] at hs1 hs2
      obtain rfl : s = s1 := Option.some.inj hs1
      obtain rfl : s = s2 := Option.some.inj hs2
      have hne : (s.toList != s.toList) = false := bne_self_eq_false _
      clear hs hs1 hs2
      go_wp2_with fail
      refine wp_region_split_lit [] [0, 1, 2, 3, 4, 5, 6, 7, 8] [] (by kernel_rfl) (by kernel_rfl) (fun _ _ dd _ _ hh => by cases dd <;> exact hh) ?_
      simp only [pickOps, List.getElem?_cons_succ, List.getElem?_cons_zero]
      refine wpQuiet_nil ?_
      repeat (go_big_quiet_step (fail))
      refine wpQuiet_nil ?_
      intro W hw'
      have HX2 : Hid (Ext w W) := Lib.hid (by obtain ⟨kk, rfl⟩ := hw'; exact HX.out.trans (Ext.drewN _ _))
      clear hw'
      go_wp2_with fail
      go_roundw
      case rel => exact ⟨k + 1, by go_num, by omega, HX2⟩
      case measure => simp [RowKit.intOf]; omega
    · go_wp2_with fail
      go_ret
      exact ⟨rfl, HX.out⟩

set_option maxHeartbeats 16000000 in
set_option maxRecDepth 100000 in
theorem diskPlays_any (w : World) (room : Int) (ao : Option Addr) (an ac : Nat) (al : List Da) (ha : Src w 7 (.slice ao an ac) an (das al)) (hok : ∀ p ∈ al, p.Ok w) (hn : an ≤ 1099511627776000) :
    Calls Try.prog 3 #[.int .i64 room, .slice ao an ac] w fun e w' => e = .returned (.bool true) ∧ Ext w w' := by
  have HA := Lib.hid ha
  have HOK := Lib.hid hok
  clear ha hok
  by_cases hbad : room < 0 ∨ 1073741824 < room
  · go_enter Try.func3, Try.ntmps3
    go_wp2_with (first
      | (go_at_call 4; refine (disk_new_bad hbad w).mono ?_; rintro e w' ⟨rfl, rfl⟩)
      | (go_at_call 5; refine (rk_new_bad hbad w).mono ?_; rintro e w' ⟨rfl, rfl⟩))
    go_ret
    exact ⟨rfl, Ext.refl _⟩
  · have r0 : 0 ≤ room := by omega
    have r1 : room ≤ 1073741824 := by omega
    clear hbad
    go_enter Try.func3, Try.ntmps3
    go_wp2_with fail
    refine (disk_new r0 r1 w).mono ?_
    rintro e w1 ⟨rfl, hd1, hx1⟩
    have HD1 := Lib.hid hd1
    have HX1 := Lib.hid hx1
    obtain ⟨d0, hd0⟩ : ∃ d0, d0 = w.heap.size + 1 := ⟨_, rfl⟩
    rw [← hd0] at HD1 ⊢
    have HD0 := Lib.hid hd0
    clear hd1 hx1 hd0
    go_wp2_with fail
    refine (rk_new r0 r1 w1).mono ?_
    rintro e w2 ⟨rfl, hr2, hx2⟩
    obtain ⟨rd0, hrd0⟩ : ∃ rd0, rd0 = w1.heap.size := ⟨_, rfl⟩
    have HP : Hid (PlR w d0 rd0 0 w2) := Lib.hid (by
      have h1 := HX1.out.size
      have h2 := HD1.out.lt
      have h3 := HD0.out
      refine ⟨newDisk room, _, _, ⟨HD1.out.ext hx2, by rw [hrd0]; exact hr2, fun b hb hr => ?_, fun b hb => ?_, fun b hb => ?_, HX1.out.trans hx2⟩, ⟨newDisk_ok r0 r1, Int.le_refl _, by simp [newDisk], by simp [newDisk, sumF]⟩⟩
      · have := h2 b hb; simp at hr; omega
      · simp at hb; omega
      · simp at hb; omega)
    rw [← hrd0]
    clear hr2 hx2 hrd0 HD1 HX1 HD0
    go_wp2_with fail
    go_loopw [5, 7, 9, 10, 11, 12, 13, 14] (fun s5 s7 s9 s10 s11 s12 s13 s14 wr => ∃ (d rd j : Nat), s5 = .pointer (some ⟨d, 0, none⟩) ∧ s7 = .pointer (some ⟨rd, 0, none⟩) ∧ s9 = .int .i64 j ∧ j ≤ an ∧ j ≤ 150 ∧ Hid (PlR w d rd j wr)) (fun _ _ s9 _ _ _ _ _ _ => an - (RowKit.intOf s9).toNat)
    case atStart => exact ⟨d0, rd0, 0, rfl, rfl, rfl, by omega, by omega, HP⟩
    case round =>
      clear HP
      obtain ⟨d, rd, j, rfl, rfl, rfl, hj, hj150, HP⟩ := hrel
      rcases Classical.em (j < an ∧ j < 150) with hlt | hno
      · obtain ⟨hlt, hlt150⟩ := hlt
        obtain ⟨S, B, BR, hI, hinv⟩ := HP.out
        have I := Lib.hid hI
        have HINV := Lib.hid hinv
        clear hI hinv HP
        obtain ⟨qb, qo, q, rfl, hq, hcs⟩ := das_src (HA.out.ext I.out.ext) hlt
        have HQ := Lib.hid (HOK.out q (List.mem_of_getElem? hq))
        have q0 := hcs 0 _ rfl
        have q1 := hcs 1 _ rfl
        have q2 := hcs 2 _ rfl
        have q3 := hcs 3 _ rfl
        have q4 := hcs 4 _ rfl
        have q5 := hcs 5 _ rfl
        have q6 := hcs 6 _ rfl
        rw [Nat.add_zero] at q0
        rw [← Nat.add_assoc] at q1 q2 q3 q4 q5 q6
        clear hcs hq
        go_upto_region 11 with fail
        clear q0 q1 q2 q3 q4 q5 q6
        generalize hW : World.alloc _ _ = W
        obtain ⟨xb, hxb⟩ : ∃ xb, xb = wr.heap.size := ⟨_, rfl⟩
        have HXW : Hid (Ext wr W) := Lib.hid (by rw [← hW]; exact (Ext.refl _).alloc _)
        have HB : Hid (W.heap[xb]? = some (.cells #[.int .i64 q.k, .string q.nm, .string q.to, .slice q.ba q.bn q.bc, .int .i64 q.n, .int .u32 (q.b : Int), .slice q.ka q.kn q.kc] 34 (0, 0))) := Lib.hid (by rw [← hW, hxb]; exact heap_alloc_new wr _)
        have HXB := Lib.hid hxb
        rw [← hxb]
        clear hW hxb
        have c3 : W.cell? ⟨xb, 3, none⟩ = some (.slice q.ba q.bn q.bc) := by have := cell_of_block HB.out 3; simpa using this
        have z3 := free_of_block HB.out 3
        obtain ⟨hbn, hbc⟩ := HQ.out.bc
        unfold maxLen at hbc
        go_upto_if 62 with fail
        go_cut [10] (fun s10 wx => s10 = .pointer (some ⟨xb, 0, none⟩) ∧ Hid (∃ a n l, DaBox w q xb a n l wx) ∧ Hid (Ext wr wx))
        case first =>
          rcases Nat.lt_or_ge 2000 q.bn with h | h
          · obtain ⟨b1, o1, hba⟩ := u8_src HQ.out.bs (by omega)
            have h1 : 2000 ≤ q.bc := by omega
            have HBA := Lib.hid hba
            rw [hba] at c3
            clear hba
            go_wp2_with fail
            go_meet
            refine ⟨rfl, Lib.hid ⟨some ⟨b1, o1, none⟩, 2000, q.bs.take 2000, ?_, ?_, Nat.le_refl _⟩, Lib.hid (HXW.out.setCell (Nat.le_of_eq HXB.out.symm) _)⟩
            · have := setCell_block HB.out (i := 3) (.slice (some ⟨b1, o1, none⟩) 2000 q.bc)
              simpa using this
            · have := u8_pre HQ.out.bs (k := 2000) (by omega) HQ.out.b0
              rw [HBA.out] at this; exact this
          · have h1 : ¬ 2000 < q.bn := by omega
            go_wp2_with fail
            go_meet
            exact ⟨rfl, Lib.hid ⟨_, q.bn, q.bs, HB.out, HQ.out.bs, h⟩, HXW⟩
        case rest =>
          obtain ⟨rfl, HBX, HX1⟩ := hcut
          clear c3 z3 HB HXW hbn hbc
          obtain ⟨ba, bn, bs, hbx⟩ := HBX.out
          have HBX := Lib.hid hbx
          have hbn : bn ≤ 2000 := hbx.few
          clear hbx
          have c0 : wc.cell? ⟨xb, 0, none⟩ = some (.int .i64 q.k) := by have := cell_of_block HBX.out.box 0; simpa using this
          have c1 : wc.cell? ⟨xb, 1, none⟩ = some (.string q.nm) := by have := cell_of_block HBX.out.box 1; simpa using this
          have c2 : wc.cell? ⟨xb, 2, none⟩ = some (.string q.to) := by have := cell_of_block HBX.out.box 2; simpa using this
          have c3 : wc.cell? ⟨xb, 3, none⟩ = some (.slice ba bn q.bc) := by have := cell_of_block HBX.out.box 3; simpa using this
          have c4 : wc.cell? ⟨xb, 4, none⟩ = some (.int .i64 q.n) := by have := cell_of_block HBX.out.box 4; simpa using this
          have c5 : wc.cell? ⟨xb, 5, none⟩ = some (.int .u32 (q.b : Int)) := by have := cell_of_block HBX.out.box 5; simpa using this
          have c6 : wc.cell? ⟨xb, 6, none⟩ = some (.slice q.ka q.kn q.kc) := by have := cell_of_block HBX.out.box 6; simpa using this
          have IW := Lib.hid (I.out.next HX1.out)
          go_upto_block 2 with fail
          go_cut [5, 7, 11, 12] (fun s5 s7 s11 s12 wx => ∃ (d' rd' : Nat) (z : Int), s5 = .pointer (some ⟨d', 0, none⟩) ∧ s7 = .pointer (some ⟨rd', 0, none⟩) ∧ s11 = .int .i64 z ∧ s12 = .int .i64 z ∧ Hid (PlR w d' rd' (j + 1) wx) ∧ Hid (DaBox w q xb ba bn bs wx))
          case first =>
            obtain ⟨T, hT⟩ : ∃ T : Nat → Bool, T = fun b => decide (b ∈ B) := ⟨_, rfl⟩
            have HXN : Hid (∀ x, (x ∈ B → x ≠ xb) ∧ (x ∈ BR → x ≠ xb)) := Lib.hid (fun x => ⟨fun hx => by have := I.out.x.lt x hx; have := HXB.out; omega, fun hx => by have := I.out.y.lt x hx; have := HXB.out; omega⟩)
            have hTx : T xb = false := by rw [hT]; simp; exact fun e => (HXN.out xb).1 e rfl
            have HT := Lib.hid hT
            have hops : S.ops < 4611686018427387904 := by have := HINV.out.ops; omega
            have hap : bn = 0 ∨ ∀ g, (Value.slice ba bn q.bc).ownBlock = some g → g ∉ B := (HBX.out.src.own_lt (by decide)).imp id (fun h g hg hB => by have := h g hg; have := I.out.bx g hB; omega)
            clear hT
            by_cases hk : q.k = 0
            · as_aux_lemma =>
                have ek : (q.k == 0) = true := by rw [hk]; rfl
                obtain ⟨z, hz⟩ : ∃ z, z = (S.append q.nm bs).1 := ⟨_, rfl⟩
                have HZ := Lib.hid hz
                clear hz hk
                go_wp2_with fail
                have f1 := cell_turned (T := T) c1 hTx
                have f3 := cell_turned (T := T) c3 hTx
                clear c0 c1 c2 c3 c4 c5 c6
                refine wp_region_plan 11 (fun w' => ∃ p : Turned, w' = turned wc T p.d p.f p.os) (.reads [0, 1, 2, 3, 4, 6, 7, 8, 9, 10] (.one 5 (.one 11 (.one 12 (.one 13 .done))))) (by kernel_rfl) (by kernel_rfl) (fun _ _ dd _ _ hh => by cases dd <;> exact hh) ?_ ?_
                · exact turned_of_ext (Ext.drewN wc 1)
                refine wpPlan_reads ?_
                simp only [pickOps, List.getElem?_cons_succ, List.getElem?_cons_zero]
                repeat (go_big_quiet_step (fail))
                refine wpQuiet_nil ?_
                clear f1 f3
                refine wpPlan_one ?_
                simp only [pickOps, List.getElem?_cons_succ, List.getElem?_cons_zero]
                have IY := Lib.hid (IW.out.next (Ext.drewN wc 1))
                go_wp2_with fail
                refine (disk_append' HINV.out.ok hops IY.out.x q.nm HQ.out.nm ba bn q.bc bs (HBX.out.src.ext IY.out.ext) hap (by unfold maxLen; omega)).mono ?_
                rintro e w3 ⟨rfl, hto⟩
                rw [← HZ.out]
                obtain ⟨B2, hI2⟩ := IY.out.stepX hto
                have HC3 : Hid (Chg (· ∈ B) wc w3) := Lib.hid (by obtain ⟨_, _, hc, _⟩ := hto; exact (Chg.of_ext (S := (· ∈ B)) (Ext.drewN wc 1)).trans hc (fun _ _ e => e))
                clear IY hto
                have IY := Lib.hid hI2
                clear hI2
                go_wp2_with fail
                refine thenX_mk (turned_of_chg (HC3.out.mono (fun i _ e => by rw [HT.out]; simpa using e))) (wpPlan_one ?_)
                simp only [pickOps, List.getElem?_cons_succ, List.getElem?_cons_zero]
                go_wp2_with fail
                refine (rk_append HINV.out.ok hops IY.out.y q.nm HQ.out.nm ba bn q.bc bs (HBX.out.src.ext IY.out.ext) (by omega)).mono ?_
                rintro e w4 ⟨rfl, hto⟩
                rw [← HZ.out]
                obtain ⟨BR2, hI2⟩ := IY.out.stepY hto
                have HBZ : Hid (DaBox w q xb ba bn bs w4) := Lib.hid (by
                  obtain ⟨_, _, hc, _⟩ := hto
                  exact (HBX.out.chg HC3.out (fun e => (HXN.out xb).1 e rfl)).chg hc (fun e => (HXN.out xb).2 e rfl))
                have HP2 : Hid (PlR w d rd (j + 1) w4) := Lib.hid ⟨_, _, _, hI2, HINV.out.append q.nm bs⟩
                clear hto hI2 HC3 IY
                go_wp2_with fail
                refine thenX_last (wpPlan_one ?_)
                simp only [pickOps, List.getElem?_cons_succ, List.getElem?_cons_zero]
                go_wp2_with fail
                refine thenX_last (wpPlan_one ?_)
                simp only [pickOps, List.getElem?_cons_succ, List.getElem?_cons_zero]
                go_wp2_with fail
                refine thenX_last (wpPlan_done ?_)
                go_wp2_with fail
                go_meet
                exact ⟨d, rd, z, rfl, rfl, rfl, rfl, HP2, HBZ⟩
            have n0 : (q.k == 0) = false := beq_eq_false_iff_ne.2 hk
            clear hk
            by_cases hk : q.k = 1
            · as_aux_lemma =>
                have ek : (q.k == 1) = true := by rw [hk]; rfl
                obtain ⟨z, hz⟩ : ∃ z, z = (S.sync q.nm).1 := ⟨_, rfl⟩
                have HZ := Lib.hid hz
                clear hz hk
                go_wp2_with fail
                have f1 := cell_turned (T := T) c1 hTx
                clear c0 c1 c2 c3 c4 c5 c6
                refine wp_region_plan 7 (fun w' => ∃ p : Turned, w' = turned wc T p.d p.f p.os) (.reads [0, 1, 2, 4, 5, 6] (.one 3 (.one 7 (.one 8 (.one 9 .done))))) (by kernel_rfl) (by kernel_rfl) (fun _ _ dd _ _ hh => by cases dd <;> exact hh) ?_ ?_
                · exact turned_of_ext (Ext.drewN wc 1)
                refine wpPlan_reads ?_
                simp only [pickOps, List.getElem?_cons_succ, List.getElem?_cons_zero]
                repeat (go_big_quiet_step (fail))
                refine wpQuiet_nil ?_
                clear f1
                refine wpPlan_one ?_
                simp only [pickOps, List.getElem?_cons_succ, List.getElem?_cons_zero]
                have IY := Lib.hid (IW.out.next (Ext.drewN wc 1))
                go_wp2_with fail
                refine (disk_sync HINV.out.ok hops IY.out.x q.nm HQ.out.nm).mono ?_
                rintro e w3 ⟨rfl, hto⟩
                rw [← HZ.out]
                obtain ⟨B2, hI2⟩ := IY.out.stepX hto
                have HC3 : Hid (Chg (· ∈ B) wc w3) := Lib.hid (by obtain ⟨_, _, hc, _⟩ := hto; exact (Chg.of_ext (S := (· ∈ B)) (Ext.drewN wc 1)).trans hc (fun _ _ e => e))
                clear IY hto
                have IY := Lib.hid hI2
                clear hI2
                go_wp2_with fail
                refine thenX_mk (turned_of_chg (HC3.out.mono (fun i _ e => by rw [HT.out]; simpa using e))) (wpPlan_one ?_)
                simp only [pickOps, List.getElem?_cons_succ, List.getElem?_cons_zero]
                go_wp2_with fail
                refine (rk_sync HINV.out.ok hops IY.out.y q.nm ⟨#[]⟩ HQ.out.nm).mono ?_
                rintro e w4 ⟨rfl, hto⟩
                rw [← HZ.out]
                obtain ⟨BR2, hI2⟩ := IY.out.stepY hto
                have HBZ : Hid (DaBox w q xb ba bn bs w4) := Lib.hid (by
                  obtain ⟨_, _, hc, _⟩ := hto
                  exact (HBX.out.chg HC3.out (fun e => (HXN.out xb).1 e rfl)).chg hc (fun e => (HXN.out xb).2 e rfl))
                have HP2 : Hid (PlR w d rd (j + 1) w4) := Lib.hid ⟨_, _, _, hI2, HINV.out.sync q.nm⟩
                clear hto hI2 HC3 IY
                go_wp2_with fail
                refine thenX_last (wpPlan_one ?_)
                simp only [pickOps, List.getElem?_cons_succ, List.getElem?_cons_zero]
                go_wp2_with fail
                refine thenX_last (wpPlan_one ?_)
                simp only [pickOps, List.getElem?_cons_succ, List.getElem?_cons_zero]
                go_wp2_with fail
                refine thenX_last (wpPlan_done ?_)
                go_wp2_with fail
                go_meet
                exact ⟨d, rd, z, rfl, rfl, rfl, rfl, HP2, HBZ⟩
            have n1 : (q.k == 1) = false := beq_eq_false_iff_ne.2 hk
            clear hk
            by_cases hk : q.k = 2
            · as_aux_lemma =>
                have ek : (q.k == 2) = true := by rw [hk]; rfl
                obtain ⟨z, hz⟩ : ∃ z, z = (S.rename q.nm q.to).1 := ⟨_, rfl⟩
                have HZ := Lib.hid hz
                clear hz hk
                go_wp2_with fail
                have f1 := cell_turned (T := T) c1 hTx
                have f2 := cell_turned (T := T) c2 hTx
                clear c0 c1 c2 c3 c4 c5 c6
                refine wp_region_plan 11 (fun w' => ∃ p : Turned, w' = turned wc T p.d p.f p.os) (.reads [0, 1, 2, 3, 4, 6, 7, 8, 9, 10] (.one 5 (.one 11 (.one 12 (.one 13 .done))))) (by kernel_rfl) (by kernel_rfl) (fun _ _ dd _ _ hh => by cases dd <;> exact hh) ?_ ?_
                · exact turned_of_ext (Ext.drewN wc 1)
                refine wpPlan_reads ?_
                simp only [pickOps, List.getElem?_cons_succ, List.getElem?_cons_zero]
                repeat (go_big_quiet_step (fail))
                refine wpQuiet_nil ?_
                clear f1 f2
                refine wpPlan_one ?_
                simp only [pickOps, List.getElem?_cons_succ, List.getElem?_cons_zero]
                have IY := Lib.hid (IW.out.next (Ext.drewN wc 1))
                go_wp2_with fail
                refine (disk_rename HINV.out.ok hops IY.out.x q.nm q.to HQ.out.nm HQ.out.to).mono ?_
                rintro e w3 ⟨rfl, hto⟩
                rw [← HZ.out]
                obtain ⟨B2, hI2⟩ := IY.out.stepX hto
                have HC3 : Hid (Chg (· ∈ B) wc w3) := Lib.hid (by obtain ⟨_, _, hc, _⟩ := hto; exact (Chg.of_ext (S := (· ∈ B)) (Ext.drewN wc 1)).trans hc (fun _ _ e => e))
                clear IY hto
                have IY := Lib.hid hI2
                clear hI2
                go_wp2_with fail
                refine thenX_mk (turned_of_chg (HC3.out.mono (fun i _ e => by rw [HT.out]; simpa using e))) (wpPlan_one ?_)
                simp only [pickOps, List.getElem?_cons_succ, List.getElem?_cons_zero]
                go_wp2_with fail
                refine (rk_rename HINV.out.ok hops IY.out.y q.nm q.to HQ.out.nm HQ.out.to).mono ?_
                rintro e w4 ⟨rfl, hto⟩
                rw [← HZ.out]
                obtain ⟨BR2, hI2⟩ := IY.out.stepY hto
                have HBZ : Hid (DaBox w q xb ba bn bs w4) := Lib.hid (by
                  obtain ⟨_, _, hc, _⟩ := hto
                  exact (HBX.out.chg HC3.out (fun e => (HXN.out xb).1 e rfl)).chg hc (fun e => (HXN.out xb).2 e rfl))
                have HP2 : Hid (PlR w d rd (j + 1) w4) := Lib.hid ⟨_, _, _, hI2, HINV.out.rename q.nm q.to⟩
                clear hto hI2 HC3 IY
                go_wp2_with fail
                refine thenX_last (wpPlan_one ?_)
                simp only [pickOps, List.getElem?_cons_succ, List.getElem?_cons_zero]
                go_wp2_with fail
                refine thenX_last (wpPlan_one ?_)
                simp only [pickOps, List.getElem?_cons_succ, List.getElem?_cons_zero]
                go_wp2_with fail
                refine thenX_last (wpPlan_done ?_)
                go_wp2_with fail
                go_meet
                exact ⟨d, rd, z, rfl, rfl, rfl, rfl, HP2, HBZ⟩
            have n2 : (q.k == 2) = false := beq_eq_false_iff_ne.2 hk
            clear hk
            by_cases hk : q.k = 3
            · as_aux_lemma =>
                have ek : (q.k == 3) = true := by rw [hk]; rfl
                obtain ⟨z, hz⟩ : ∃ z, z = (S.delete q.nm).1 := ⟨_, rfl⟩
                have HZ := Lib.hid hz
                clear hz hk
                go_wp2_with fail
                have f1 := cell_turned (T := T) c1 hTx
                clear c0 c1 c2 c3 c4 c5 c6
                refine wp_region_plan 7 (fun w' => ∃ p : Turned, w' = turned wc T p.d p.f p.os) (.reads [0, 1, 2, 4, 5, 6] (.one 3 (.one 7 (.one 8 (.one 9 .done))))) (by kernel_rfl) (by kernel_rfl) (fun _ _ dd _ _ hh => by cases dd <;> exact hh) ?_ ?_
                · exact turned_of_ext (Ext.drewN wc 1)
                refine wpPlan_reads ?_
                simp only [pickOps, List.getElem?_cons_succ, List.getElem?_cons_zero]
                repeat (go_big_quiet_step (fail))
                refine wpQuiet_nil ?_
                clear f1
                refine wpPlan_one ?_
                simp only [pickOps, List.getElem?_cons_succ, List.getElem?_cons_zero]
                have IY := Lib.hid (IW.out.next (Ext.drewN wc 1))
                go_wp2_with fail
                refine (disk_delete HINV.out.ok hops IY.out.x q.nm HQ.out.nm).mono ?_
                rintro e w3 ⟨rfl, hto⟩
                rw [← HZ.out]
                obtain ⟨B2, hI2⟩ := IY.out.stepX hto
                have HC3 : Hid (Chg (· ∈ B) wc w3) := Lib.hid (by obtain ⟨_, _, hc, _⟩ := hto; exact (Chg.of_ext (S := (· ∈ B)) (Ext.drewN wc 1)).trans hc (fun _ _ e => e))
                clear IY hto
                have IY := Lib.hid hI2
                clear hI2
                go_wp2_with fail
                refine thenX_mk (turned_of_chg (HC3.out.mono (fun i _ e => by rw [HT.out]; simpa using e))) (wpPlan_one ?_)
                simp only [pickOps, List.getElem?_cons_succ, List.getElem?_cons_zero]
                go_wp2_with fail
                refine (rk_delete HINV.out.ok hops IY.out.y q.nm ⟨#[]⟩ HQ.out.nm).mono ?_
                rintro e w4 ⟨rfl, hto⟩
                rw [← HZ.out]
                obtain ⟨BR2, hI2⟩ := IY.out.stepY hto
                have HBZ : Hid (DaBox w q xb ba bn bs w4) := Lib.hid (by
                  obtain ⟨_, _, hc, _⟩ := hto
                  exact (HBX.out.chg HC3.out (fun e => (HXN.out xb).1 e rfl)).chg hc (fun e => (HXN.out xb).2 e rfl))
                have HP2 : Hid (PlR w d rd (j + 1) w4) := Lib.hid ⟨_, _, _, hI2, HINV.out.delete q.nm⟩
                clear hto hI2 HC3 IY
                go_wp2_with fail
                refine thenX_last (wpPlan_one ?_)
                simp only [pickOps, List.getElem?_cons_succ, List.getElem?_cons_zero]
                go_wp2_with fail
                refine thenX_last (wpPlan_one ?_)
                simp only [pickOps, List.getElem?_cons_succ, List.getElem?_cons_zero]
                go_wp2_with fail
                refine thenX_last (wpPlan_done ?_)
                go_wp2_with fail
                go_meet
                exact ⟨d, rd, z, rfl, rfl, rfl, rfl, HP2, HBZ⟩
            have n3 : (q.k == 3) = false := beq_eq_false_iff_ne.2 hk
            clear hk
            by_cases hk : q.k = 4
            · as_aux_lemma =>
                have ek : (q.k == 4) = true := by rw [hk]; rfl
                clear hk
                have HQN := Lib.hid HQ.out.n
                go_wp2_with fail
                refine (disk_cut IW.out.x q.n).mono ?_
                rintro e w3 ⟨rfl, hto⟩
                obtain ⟨B2, hI2⟩ := IW.out.stepX hto
                have HC3 : Hid (Chg (· ∈ B) wc w3) := Lib.hid (by obtain ⟨_, _, hc, _⟩ := hto; exact hc)
                have IY := Lib.hid hI2
                clear hto hI2 c0 c1 c2 c3 c4 c5 c6
                have HB3 := Lib.hid (HBX.out.chg HC3.out (fun e => (HXN.out xb).1 e rfl))
                have c4 : w3.cell? ⟨xb, 4, none⟩ = some (.int .i64 q.n) := by have := cell_of_block HB3.out.box 4; simpa using this
                obtain ⟨hl1, y1, y2, hrdB⟩ := IY.out.y.left q.n
                have HL1 := Lib.hid hl1
                have HRB := Lib.hid hrdB
                clear hl1 hrdB
                go_upto_region 26 with fail
                clear c4 y1 y2
                have hc4 := setCell_chg w3 rd 1 (.int .i64 q.n)
                generalize World.setCell _ _ _ = w4 at *
                have HC4 : Hid (Chg (· ∈ BR) w3 w4) := Lib.hid (hc4.mono (fun i _ e => by rw [e]; exact HRB.out))
                clear hc4
                have HB4 := Lib.hid (HB3.out.chg HC4.out (fun e => (HXN.out xb).2 e rfl))
                have c4 : w4.cell? ⟨xb, 4, none⟩ = some (.int .i64 q.n) := by have := cell_of_block HB4.out.box 4; simpa using this
                obtain ⟨hl2, y1, y2, _⟩ := HL1.out.left (-1)
                have HL2 := Lib.hid hl2
                clear hl2
                by_cases hneg : q.n < 0
                · go_wp2_with fail
                  go_meet
                  have hc5 : Chg (· ∈ BR) w4 (w4.setCell ⟨rd, 1, none⟩ (.int .i64 (-1))) := (setCell_chg w4 rd 1 (.int .i64 (-1))).mono (fun i _ e => by rw [e]; exact HRB.out)
                  obtain ⟨BR2, hI3⟩ := IY.out.stepY (S2 := S.cut q.n) ⟨BR, by
                    have e : S.cut q.n = { S with left := -1 } := by unfold DiskS.cut; congr 1; omega
                    rw [e]; exact HL2.out, HC4.out.trans hc5 (fun _ _ e => e), fun b hb => .inl hb⟩
                  exact ⟨d, rd, 0, rfl, rfl, rfl, rfl, Lib.hid ⟨_, _, _, hI3, (HINV.out.cut HQN.out).mono (by omega)⟩, Lib.hid (HB4.out.chg hc5 (fun e => (HXN.out xb).2 e rfl))⟩
                · go_wp2_with fail
                  go_meet
                  obtain ⟨BR2, hI3⟩ := IY.out.stepY (S2 := S.cut q.n) ⟨BR, by
                    have e : S.cut q.n = { S with left := q.n } := by unfold DiskS.cut; congr 1; omega
                    rw [e]; exact HL1.out, HC4.out, fun b hb => .inl hb⟩
                  exact ⟨d, rd, 0, rfl, rfl, rfl, rfl, Lib.hid ⟨_, _, _, hI3, (HINV.out.cut HQN.out).mono (by omega)⟩, HB4⟩
            have n4 : (q.k == 4) = false := beq_eq_false_iff_ne.2 hk
            clear hk
            by_cases hk : q.k = 5
            · as_aux_lemma =>
                have ek : (q.k == 5) = true := by rw [hk]; rfl
                clear hk
                have HKC := Lib.hid HQ.out.kc
                have HKS := Lib.hid HQ.out.ks
                go_wp2_with fail
                refine (disk_crash HINV.out.ok IW.out.x q.ka q.kn q.kc q.ks (HKS.out.ext IW.out.ext) (by have := HKC.out; unfold maxLen at this; omega)).mono ?_
                rintro e w3 ⟨dn, B2, rfl, hat, hx3, hb2⟩
                have IY := Lib.hid (IW.out.newX hat hx3 hb2)
                have HB3 := Lib.hid (HBX.out.ext hx3)
                clear hat hx3 hb2 c0 c1 c2 c3 c4 c5 c6
                have c6 : w3.cell? ⟨xb, 6, none⟩ = some (.slice q.ka q.kn q.kc) := by have := cell_of_block HB3.out.box 6; simpa using this
                go_wp2_with fail
                refine (rk_crash HINV.out.ok IY.out.y q.ka q.kn q.kc q.ks (HKS.out.ext IY.out.ext) (by have := HKC.out; unfold maxLen at this; omega)).mono ?_
                rintro e w4 ⟨rn, BR2, rfl, hat, hx4, hb4⟩
                have IZ := Lib.hid (IY.out.newY hat hx4 hb4)
                have HB4 := Lib.hid (HB3.out.ext hx4)
                clear hat hx4 hb4 c6
                go_wp2_with fail
                go_meet
                obtain ⟨D, hD⟩ := IW.out.y.sort
                exact ⟨dn, rn, 0, rfl, rfl, rfl, rfl, Lib.hid ⟨_, _, _, IZ.out, (HINV.out.crash hD q.ks).mono (by omega)⟩, HB4⟩
            have n5 : (q.k == 5) = false := beq_eq_false_iff_ne.2 hk
            clear hk
            by_cases hk : q.k = 6
            · as_aux_lemma =>
                have ek : (q.k == 6) = true := by rw [hk]; rfl
                obtain ⟨z, hz⟩ : ∃ z, z = (S.flip q.nm q.n q.b).1 := ⟨_, rfl⟩
                have HZ := Lib.hid hz
                clear hz hk
                go_wp2_with fail
                have f1 := cell_turned (T := T) c1 hTx
                have f4 := cell_turned (T := T) c4 hTx
                have f5 := cell_turned (T := T) c5 hTx
                clear c0 c1 c2 c3 c4 c5 c6
                refine wp_region_plan 15 (fun w' => ∃ p : Turned, w' = turned wc T p.d p.f p.os) (.reads [0, 1, 2, 3, 4, 5, 6, 8, 9, 10, 11, 12, 13, 14] (.one 7 (.one 15 (.one 16 (.one 17 .done))))) (by kernel_rfl) (by kernel_rfl) (fun _ _ dd _ _ hh => by cases dd <;> exact hh) ?_ ?_
                · exact turned_of_ext (Ext.drewN wc 1)
                refine wpPlan_reads ?_
                simp only [pickOps, List.getElem?_cons_succ, List.getElem?_cons_zero]
                repeat (go_big_quiet_step (fail))
                refine wpQuiet_nil ?_
                clear f1 f4 f5
                refine wpPlan_one ?_
                simp only [pickOps, List.getElem?_cons_succ, List.getElem?_cons_zero]
                have IY := Lib.hid (IW.out.next (Ext.drewN wc 1))
                go_wp2_with fail
                refine (disk_flip HINV.out.ok IY.out.x q.nm q.n q.b HQ.out.b).mono ?_
                rintro e w3 ⟨rfl, hto⟩
                rw [← HZ.out]
                obtain ⟨B2, hI2⟩ := IY.out.stepX hto
                have HC3 : Hid (Chg (· ∈ B) wc w3) := Lib.hid (by obtain ⟨_, _, hc, _⟩ := hto; exact (Chg.of_ext (S := (· ∈ B)) (Ext.drewN wc 1)).trans hc (fun _ _ e => e))
                clear IY hto
                have IY := Lib.hid hI2
                clear hI2
                go_wp2_with fail
                refine thenX_mk (turned_of_chg (HC3.out.mono (fun i _ e => by rw [HT.out]; simpa using e))) (wpPlan_one ?_)
                simp only [pickOps, List.getElem?_cons_succ, List.getElem?_cons_zero]
                go_wp2_with fail
                refine (rk_flip HINV.out.ok IY.out.y q.nm q.n q.b HQ.out.b).mono ?_
                rintro e w4 ⟨rfl, hto⟩
                rw [← HZ.out]
                obtain ⟨BR2, hI2⟩ := IY.out.stepY hto
                have HBZ : Hid (DaBox w q xb ba bn bs w4) := Lib.hid (by
                  obtain ⟨_, _, hc, _⟩ := hto
                  exact (HBX.out.chg HC3.out (fun e => (HXN.out xb).1 e rfl)).chg hc (fun e => (HXN.out xb).2 e rfl))
                have HP2 : Hid (PlR w d rd (j + 1) w4) := Lib.hid ⟨_, _, _, hI2, (HINV.out.flip q.nm q.n q.b).mono (by omega)⟩
                clear hto hI2 HC3 IY
                go_wp2_with fail
                refine thenX_last (wpPlan_one ?_)
                simp only [pickOps, List.getElem?_cons_succ, List.getElem?_cons_zero]
                go_wp2_with fail
                refine thenX_last (wpPlan_one ?_)
                simp only [pickOps, List.getElem?_cons_succ, List.getElem?_cons_zero]
                go_wp2_with fail
                refine thenX_last (wpPlan_done ?_)
                go_wp2_with fail
                go_meet
                exact ⟨d, rd, z, rfl, rfl, rfl, rfl, HP2, HBZ⟩
            have n6 : (q.k == 6) = false := beq_eq_false_iff_ne.2 hk
            clear hk
            as_aux_lemma =>
            go_wp2_with fail
            go_meet
            exact ⟨d, rd, 0, rfl, rfl, rfl, rfl, Lib.hid ⟨_, _, _, IW.out, HINV.out.mono (by omega)⟩, HBX⟩
          case rest =>
            as_aux_lemma =>
            clear c0 c1 c2 c3 c4 c5 c6
            obtain ⟨d', rd', z, rfl, rfl, rfl, rfl, HP, HBZ⟩ := hcut
            clear I HINV IW HBX HX1 HXB
            obtain ⟨S2, B2, BR2, hI, hinv⟩ := HP.out
            have I := Lib.hid hI
            have HINV := Lib.hid hinv
            clear hI hinv HP
            have HNM := Lib.hid HQ.out.nm
            have HTO := Lib.hid HQ.out.to
            have HFM : Hid (∀ f ∈ S2.files, f.1.size ≤ maxLen) := Lib.hid (fun f hf => by have := HINV.out.nm f hf; unfold maxLen; omega)
            have HLL : Hid (∀ p, (S2.list p).length ≤ 1000000) := Lib.hid (fun p => by
              have h1 := HINV.out.ok.few
              have h2 := List.length_filter_le (fun s => Lib.hasPrefix (bl s) (bl p)) (S2.files.map (·.1))
              unfold DiskS.list DiskS.names
              rw [sortS_length]
              simp at h2 ⊢; omega)
            have hzz : (z != z) = false := bne_self_eq_false z
            have huu : (S2.used != S2.used) = false := bne_self_eq_false _
            have hoo : (S2.ops != S2.ops) = false := bne_self_eq_false _
            have f0 := cell_turned (T := fun _ => false) (rkAt_ops I.out.y) rfl
            have f2 := cell_turned (T := fun _ => false) (show wc.cell? ⟨xb, 2, none⟩ = some (.string q.to) by have := cell_of_block HBZ.out.box 2; simpa using this) rfl
            go_wp2_with fail
            refine wp_region_plan 40 (fun w' => ∃ p : Turned, w' = turned wc (fun _ => false) p.d p.f p.os) (.reads [0, 1, 2, 3, 4, 5, 6, 7, 8, 10] (.one 9 (.one 11 (.reads [12, 13, 14, 15, 17, 18, 19, 20] (.one 16 (.reads [21, 22, 23, 24, 25, 26, 28, 29, 30] (.one 27 (.one 31 (.one 32 (.reads [33, 34, 35, 36, 38] (.one 37 (.one 39 (.one 40 (.one 41 (.one 42 .done))))))))))))))) (by kernel_rfl) (by kernel_rfl) (fun _ _ dd _ _ hh => by cases dd <;> exact hh) ?_ ?_
            · exact turned_of_ext (Ext.drewN wc 1)
            refine wpPlan_reads ?_
            simp only [pickOps, List.getElem?_cons_succ, List.getElem?_cons_zero]
            repeat (go_big_quiet_step (fail))
            refine wpQuiet_nil ?_
            refine wpPlan_one ?_
            simp only [pickOps, List.getElem?_cons_succ, List.getElem?_cons_zero]
            have ID := Lib.hid (I.out.next (Ext.drewN wc 1))
            go_wp2_with fail
            refine (disk_used ID.out.x).mono ?_
            rintro e w3 ⟨rfl, rfl⟩
            go_wp2_with fail
            refine thenX_mk (turned_of_ext (Ext.drewN wc 1)) (wpPlan_one ?_)
            simp only [pickOps, List.getElem?_cons_succ, List.getElem?_cons_zero]
            go_wp2_with fail
            refine (rkAt_used HINV.out.ok ID.out.y).mono ?_
            rintro e w3 ⟨rfl, rfl⟩
            go_wp2_with fail
            refine thenX_mk (turned_of_ext (Ext.drewN wc 1)) (wpPlan_reads ?_)
            simp only [pickOps, List.getElem?_cons_succ, List.getElem?_cons_zero]
            repeat (go_big_quiet_step (fail))
            refine wpQuiet_nil ?_
            refine wpPlan_one ?_
            simp only [pickOps, List.getElem?_cons_succ, List.getElem?_cons_zero]
            go_wp2_with fail
            refine (disk_ops ID.out.x).mono ?_
            rintro e w3 ⟨rfl, rfl⟩
            go_wp2_with fail
            refine thenX_mk (turned_of_ext (Ext.drewN wc 1)) (wpPlan_reads ?_)
            simp only [pickOps, List.getElem?_cons_succ, List.getElem?_cons_zero]
            repeat (go_big_quiet_step (fail))
            refine wpQuiet_nil ?_
            refine wpPlan_one ?_
            simp only [pickOps, List.getElem?_cons_succ, List.getElem?_cons_zero]
            go_wp2_with fail
            clear f0 f2
            refine (disk_list HINV.out.ok ID.out.x q.to).mono ?_
            rintro e w3 ⟨v, rfl, hs⟩
            obtain ⟨a1, k1, rfl⟩ := hs.row.shape
            have HS1 := Lib.hid hs
            clear hs
            go_wp2_with fail
            refine thenX_mk (turned_of_ext ((Ext.drewN wc 1).trans HS1.out.ext)) (wpPlan_one ?_)
            simp only [pickOps, List.getElem?_cons_succ, List.getElem?_cons_zero]
            go_wp2_with fail
            refine (rk_list HINV.out.ok (ID.out.next HS1.out.ext).y q.to HTO.out HFM.out).mono ?_
            rintro e w4 ⟨v, rfl, hs⟩
            obtain ⟨a2, k2, rfl⟩ := hs.row.shape
            have HS2 := Lib.hid hs
            clear hs
            go_wp2_with fail
            refine thenX_mk (turned_of_ext (((Ext.drewN wc 1).trans HS1.out.ext).trans HS2.out.ext)) (wpPlan_one ?_)
            simp only [pickOps, List.getElem?_cons_succ, List.getElem?_cons_zero]
            go_wp2_with fail
            refine (texts10 (HS1.out.row.strs_src.ext HS2.out.ext) HS2.out.row.strs_src (HLL.out _) rfl).mono ?_
            rintro e w5 ⟨rfl, hx5⟩
            have HX5 := Lib.hid (((Ext.drewN wc 1).trans HS1.out.ext).trans (HS2.out.ext.trans hx5))
            clear HS1 HS2 hx5
            go_wp2_with fail
            refine thenX_mk (turned_of_ext HX5.out) (wpPlan_reads ?_)
            simp only [pickOps, List.getElem?_cons_succ, List.getElem?_cons_zero]
            repeat (go_big_quiet_step (fail))
            refine wpQuiet_nil ?_
            refine wpPlan_one ?_
            simp only [pickOps, List.getElem?_cons_succ, List.getElem?_cons_zero]
            go_wp2_with fail
            refine (disk_list HINV.out.ok (I.out.next HX5.out).x ⟨#[]⟩).mono ?_
            rintro e w6 ⟨v, rfl, hs⟩
            obtain ⟨a3, k3, rfl⟩ := hs.row.shape
            have HS1 := Lib.hid hs
            clear hs
            go_wp2_with fail
            refine thenX_mk (turned_of_ext (HX5.out.trans HS1.out.ext)) (wpPlan_one ?_)
            simp only [pickOps, List.getElem?_cons_succ, List.getElem?_cons_zero]
            go_wp2_with fail
            refine (rk_list HINV.out.ok ((I.out.next HX5.out).next HS1.out.ext).y ⟨#[]⟩ (by decide) HFM.out).mono ?_
            rintro e w7 ⟨v, rfl, hs⟩
            obtain ⟨a4, k4, rfl⟩ := hs.row.shape
            have HS2 := Lib.hid hs
            clear hs
            go_wp2_with fail
            refine thenX_mk (turned_of_ext ((HX5.out.trans HS1.out.ext).trans HS2.out.ext)) (wpPlan_one ?_)
            simp only [pickOps, List.getElem?_cons_succ, List.getElem?_cons_zero]
            go_wp2_with fail
            refine (texts10 (HS1.out.row.strs_src.ext HS2.out.ext) HS2.out.row.strs_src (HLL.out _) rfl).mono ?_
            rintro e w8 ⟨rfl, hx8⟩
            have HX8 := Lib.hid ((HX5.out.trans HS1.out.ext).trans (HS2.out.ext.trans hx8))
            clear HS1 HS2 hx8 HX5 ID
            go_wp2_with fail
            refine thenX_last (wpPlan_one ?_)
            simp only [pickOps, List.getElem?_cons_succ, List.getElem?_cons_zero]
            go_wp2_with fail
            refine thenX_last (wpPlan_one ?_)
            simp only [pickOps, List.getElem?_cons_succ, List.getElem?_cons_zero]
            go_wp2_with fail
            refine thenX_last (wpPlan_done ?_)
            have IW := Lib.hid (I.out.next HX8.out)
            have HB8 := Lib.hid (HBZ.out.ext HX8.out)
            clear I HBZ HX8 hzz huu hoo
            have c1 : w8.cell? ⟨xb, 1, none⟩ = some (.string q.nm) := by have := cell_of_block HB8.out.box 1; simpa using this
            cases hx : aget S2.files q.nm with
            | none =>
              have HXG := Lib.hid hx
              have hcv : (Go.convert 30 9 (.slice none 0 0)).run Try.prog w8 = .ok (.string ⟨#[]⟩) w8 := byt_conv (l := []) (.inl ⟨rfl, rfl, rfl⟩)
              have hse : ((⟨#[]⟩ : ByteArray).toList != (⟨#[]⟩ : ByteArray).toList) = false := bne_self_eq_false _
              clear hx
              go_wp2_with fail
              refine (disk_read_none IW.out.x q.nm HXG.out).mono ?_
              rintro e w9 ⟨rfl, rfl⟩
              go_wp2_with fail
              refine (rk_read HINV.out.ok IW.out.y q.nm).mono ?_
              unfold RkReadPost
              rw [HXG.out]
              rintro e w9 ⟨rfl, rfl⟩
              go_wp2_with fail
              go_roundw
              case rel => exact ⟨d', rd', j + 1, rfl, rfl, by go_num, by omega, by omega, Lib.hid ⟨_, _, _, IW.out, HINV.out⟩⟩
              case measure => simp [RowKit.intOf]; omega
            | some f =>
              have HXG := Lib.hid hx
              clear hx
              go_wp2_with fail
              refine (disk_read_some HINV.out.ok IW.out.x q.nm f HXG.out).mono ?_
              rintro e w9 ⟨v, rfl, hrow9, _, hx9⟩
              obtain ⟨a5, k5, rfl⟩ := hrow9.shape
              have HR9 := Lib.hid hrow9
              have HX9 := Lib.hid hx9
              have c1 : w9.cell? ⟨xb, 1, none⟩ = some (.string q.nm) := by have := cell_of_block (HB8.out.ext HX9.out).box 1; simpa using this
              clear hrow9 hx9
              go_wp2_with fail
              refine (rk_read HINV.out.ok (IW.out.next HX9.out).y q.nm).mono ?_
              unfold RkReadPost
              rw [HXG.out]
              rintro e wz ⟨v, rfl, hrow9, _, hx9⟩
              obtain ⟨a6, k6, rfl⟩ := hrow9.shape
              have HXZ := Lib.hid (HX9.out.trans hx9)
              obtain ⟨s, hs⟩ : ∃ s : ByteArray, s = ⟨f.bytes.toArray⟩ := ⟨_, rfl⟩
              have hcv1 : (Go.convert 30 9 (.slice a5 f.bytes.length k5)).run Try.prog wz = .ok (.string s) wz := by rw [hs]; exact byt_conv ((HR9.out.src (u8s_one _)).ext hx9)
              have hcv2 : (Go.convert 30 9 (.slice a6 f.bytes.length k6)).run Try.prog wz = .ok (.string s) wz := by rw [hs]; exact byt_conv (hrow9.src (u8s_one _))
              have hse : (s.toList != s.toList) = false := bne_self_eq_false _
              clear hrow9 hx9 hs c1
              go_wp2_with fail
              go_roundw
              case rel => exact ⟨d', rd', j + 1, rfl, rfl, by go_num, by omega, by omega, Lib.hid ⟨_, _, _, IW.out.next HXZ.out, HINV.out⟩⟩
              case measure => simp [RowKit.intOf]; omega
      · obtain ⟨S, B, BR, hI, _⟩ := HP.out
        have HXF := Lib.hid hI.ext
        clear hI
        rcases Nat.lt_or_ge j an with hlt | hge
        · have hge4 : ¬ j < 150 := fun h => hno ⟨hlt, h⟩
          clear hno
          go_wp2_with fail
          go_ret
          exact ⟨rfl, HXF.out⟩
        · have hge' : ¬ j < an := by omega
          clear hno
          go_wp2_with fail
          go_ret
          exact ⟨rfl, HXF.out⟩
end Go.Proofs.Ytcmolfhjkkfedaa
