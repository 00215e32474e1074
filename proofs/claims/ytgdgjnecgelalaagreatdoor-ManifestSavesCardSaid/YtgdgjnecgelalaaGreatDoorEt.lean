/- ManifestReads: the walk. -/
import Derived.Test.YtgdgjnecgelalaaGreatDoorMr2
import Derived.Test.YtgdgjnecgelalaaGreatDoorMrh
import Derived.Test.YtgdgjnecgelalaaGreatDoorMsm
import Derived.Deep.DeepCutAuto
import Derived.Test.YtgdgjnecgelalaaGreatDoorSvx
import Derived.Test.YtgdgjnecgelalaaGreatDoorOsl
import Derived.Test.YtgdgjnecgelalaaGreatDoorDiskC0
import Derived.Deep.CutBlock
import Derived.Test.YtgdgjnecgelalaaGreatDoorRows
import Derived.Test.YtgdgjnecgelalaaGreatDoorVas
import Derived.ChangeSame
import Derived.ChangeVars
import Derived.LaidLaws
import Derived.LaidHandle
import Derived.Stop.Joined
namespace Go.Proofs.YtgdgjnecgelalaaGreatDoor
open Go.RowKit Go.Sort Go.Lib

theorem mq_load {P : Program} {C : World → Prop} {o : Oper} {a : Act} {K : Act → Prop} (ty : TypeId) (x : Operand) (ho : o.op = .load ty x) (p v : Value) (hx : a.eval x = p)
    (hl : ∀ w, C w → (Instr.loadAt ty p).run P w = .ok v w) (hk : K (a.put o.dst v)) : o.quiet P a C K :=
  ⟨v, fun w hw => by
    unfold Oper.quietAt execOp
    simp only [ho, hx, Sem.run_bind, hl w hw, Result.andThen_ok, Sem.run_pure]
    exact ⟨rfl, rfl⟩, hk⟩
theorem msrc_hi {w : World} {a : Option Addr} {n c k : Nat} {l : List UInt8} (h : Src w 1 (.slice a n c) n (u8s l)) (hk : k ≤ n) (h0 : 0 < k) : Src w 1 (.slice a k c) k (u8s (l.take k)) := by
  have hln := u8s_src_len h
  rcases h with ⟨_, e, _⟩ | ⟨ad, c', e, hl, hc, ho⟩
  · omega
  · simp only [Value.slice.injEq] at e
    obtain ⟨rfl, _, rfl⟩ := e
    refine .inr ⟨ad, c, rfl, by simp [u8s]; omega, fun j u hj => hc j u ?_, fun u hu => ho u ?_⟩
    · rw [← u8s_take, List.getElem?_take] at hj
      split at hj
      · exact hj
      · cases hj
    · rw [← u8s_take] at hu
      exact List.mem_of_mem_take hu
/-- What is told of a state: its bytes, the error. -/
def bytL (s : Sta) : List UInt8 := if staR s = true then sealL 7 (staP s) else []
def bytE (s : Sta) : Int := if staR s = true then 0 else 2
theorem bytesTo_out {w w' : World} {s : Sta} {e : Ending} (h : BytesTo w s e w') : ∃ a c, e = .returned (.tuple #[.slice a (bytL s).length c, .int .i64 (bytE s)]) ∧ Ext w w' ∧ Src w' 1 (.slice a (bytL s).length c) (bytL s).length (u8s (bytL s)) := by
  unfold BytesTo at h
  unfold bytL bytE
  split at h
  · rename_i hr
    rw [if_pos hr, if_pos hr]
    obtain ⟨a, c, rfl, hm⟩ := h
    exact ⟨a, c, rfl, hm.ext, hm.row.src (u8s_one _)⟩
  · rename_i hr
    rw [if_neg hr, if_neg hr]
    obtain ⟨rfl, hx⟩ := h
    exact ⟨none, 0, rfl, hx, .inl ⟨rfl, rfl, rfl⟩⟩
/-- The state that the law asks for. -/
def sta5 : Sta := ⟨5, 0, 0, ⟨false, 0, 0⟩, [], []⟩
theorem sta5_bytes : 9 < (bytL sta5).length ∧ bytE sta5 = 0 := by
  have hr : staR sta5 = true := by decide
  unfold bytL bytE
  rw [if_pos hr, if_pos hr, sealL_len]
  refine ⟨?_, rfl⟩
  have h1 := (varR_bounds (varP (u64n 5))).2.2.2 (by rw [varR_one _ (u64n_lt 5)])
  rw [varR_one _ (u64n_lt 5)] at h1
  simp only at h1
  have h2 : (varP (u64n sta5.x)).length ≤ (staP sta5).length := by
    unfold staP
    simp only [List.length_append]
    omega
  have h3 : u64n sta5.x = u64n 5 := rfl
  rw [h3] at h2
  omega
theorem staRd_fits {l : List UInt8} {s : Sta} (h : (staRd l).getD staZ = s) : s.fl.length ≤ 512 ∧ s.ti.length ≤ 4 := by
  subst h
  unfold staRd
  split
  · exact ⟨by decide, by decide⟩
  · unfold staOk
    split
    · exact ⟨by decide, by decide⟩
    · rename_i h
      have : staR (staFrom ⟨(openR l).2.1, false⟩).1 = true := by
        cases hr : staR (staFrom ⟨(openR l).2.1, false⟩).1 with
        | true => rfl
        | false => exact absurd (.inr (.inr hr)) h
      have := staR_few this
      simpa using this

end Go.Proofs.YtgdgjnecgelalaaGreatDoor

/-! ManifestLast: the walk. -/

namespace Go.Proofs.YtgdgjnecgelalaaGreatDoor
open Go.RowKit Go.Sort Go.Lib

/-- The disk and the last state that was right. -/
structure LaR (w : World) (d lb k : Nat) (p : Sx) (ops : Int) (B : List Nat) (wr : World) : Prop where
  rt : staR p.s = true
  st : p.Ok w
  few : p.fn + p.tn < 900
  box : wr.heap[lb]? = some (.cells (staC p.s p.fa p.fn p.fc p.ta p.tn p.tc) 40 (0, 0))
  disk : DiskAt wr d (baseS (some (sealL 7 (staP p.s))) (-1) ops) B
  bw : ∀ b ∈ B, w.heap.size ≤ b
  nb : lb ∉ B
  lw : w.heap.size ≤ lb
  inv : DInv (baseS (some (sealL 7 (staP p.s))) (-1) ops) k
  ext : Ext w wr
def LaE (w : World) (d lb k : Nat) (wr : World) : Prop := ∃ p ops B, LaR w d lb k p ops B wr
section
variable {w wr w1 w2 : World} {d lb k : Nat} {p : Sx} {ops : Int} {B : List Nat}
theorem LaR.next (h : LaR w d lb k p ops B wr) (hx : Ext wr w1) : LaR w d lb k p ops B w1 :=
  ⟨h.rt, h.st, h.few, hx.keep h.box, h.disk.ext hx, h.bw, h.nb, h.lw, h.inv, h.ext.trans hx⟩
theorem LaR.mono {j : Nat} (h : LaR w d lb k p ops B wr) (hk : k ≤ j) : LaR w d lb j p ops B wr :=
  ⟨h.rt, h.st, h.few, h.box, h.disk, h.bw, h.nb, h.lw, h.inv.mono hk, h.ext⟩
/-- A state that is not right was not saved. -/
theorem LaR.bad (h : LaR w d lb k p ops B wr) (ht : DiskTo wr d B (baseS (some (sealL 7 (staP p.s))) (-1) ops) w1) : ∃ B', LaR w d lb k p ops B' w1 := by
  obtain ⟨B', h1, h2, h3⟩ := ht
  have hl := block_lt h.box
  refine ⟨B', h.rt, h.st, h.few, (h2.block lb hl h.nb).trans h.box, h1, fun b hb => ?_, fun hb => ?_, h.lw, h.inv, ((Chg.of_ext (S := (· ∈ B)) h.ext).trans h2 (fun _ _ e => e)).ext (fun i hi e => by have := h.bw i e; omega)⟩
  · rcases h3 b hb with e | e
    · exact h.bw b e
    · have := h.ext.size; omega
  · rcases h3 lb hb with e | e
    · exact h.nb e
    · omega
/-- One that is was; the box is still to be written. -/
structure LaM (w : World) (d lb k : Nat) (p q : Sx) (ops : Int) (B : List Nat) (wr : World) : Prop where
  rt : staR q.s = true
  st : q.Ok w
  few : q.fn + q.tn < 900
  box : wr.heap[lb]? = some (.cells (staC p.s p.fa p.fn p.fc p.ta p.tn p.tc) 40 (0, 0))
  disk : DiskAt wr d (baseS (some (sealL 7 (staP q.s))) (-1) ops) B
  bw : ∀ b ∈ B, w.heap.size ≤ b
  nb : lb ∉ B
  lw : w.heap.size ≤ lb
  inv : DInv (baseS (some (sealL 7 (staP q.s))) (-1) ops) k
  ext : Ext w wr
theorem LaR.good {q : Sx} (h : LaR w d lb k p ops B wr) (hr : staR q.s = true) (hq : q.Ok w) (hf : q.fn + q.tn < 900) (ht : DiskTo wr d B (baseS (some (sealL 7 (staP q.s))) (-1) (ops + 3)) w1) : ∃ B', LaM w d lb (k + 4) p q (ops + 3) B' w1 := by
  obtain ⟨B', h1, h2, h3⟩ := ht
  have hl := block_lt h.box
  have hi := h.inv.save q.s
  rw [save_free (o := some (sealL 7 (staP p.s))) hr (by omega) (seal_few h.rt h.st.ok) (seal_few hr hq.ok)] at hi
  refine ⟨B', hr, hq, hf, (h2.block lb hl h.nb).trans h.box, h1, fun b hb => ?_, fun hb => ?_, h.lw, hi, ((Chg.of_ext (S := (· ∈ B)) h.ext).trans h2 (fun _ _ e => e)).ext (fun i hi e => by have := h.bw i e; omega)⟩
  · rcases h3 b hb with e | e
    · exact h.bw b e
    · have := h.ext.size; omega
  · rcases h3 lb hb with e | e
    · exact h.nb e
    · omega
theorem LaM.next {q : Sx} (h : LaM w d lb k p q ops B wr) (hx : Ext wr w1) : LaM w d lb k p q ops B w1 :=
  ⟨h.rt, h.st, h.few, hx.keep h.box, h.disk.ext hx, h.bw, h.nb, h.lw, h.inv, h.ext.trans hx⟩
theorem LaM.put {q : Sx} (h : LaM w d lb k p q ops B wr) (hb : w1.heap[lb]? = some (.cells (staC q.s q.fa q.fn q.fc q.ta q.tn q.tc) 40 (0, 0))) (hc : Chg (· = lb) wr w1) : LaR w d lb k q ops B w1 :=
  ⟨h.rt, h.st, h.few, hb, h.disk.chg hc (fun b hb e => h.nb (e ▸ hb)), h.bw, h.nb, h.lw, h.inv, ((Chg.of_ext (S := (· = lb)) h.ext).trans hc (fun _ _ e => e)).ext (fun i hi e => by have := h.lw; omega)⟩
end
def sta3 : Sta := ⟨0, 0, 3, ⟨false, 0, 0⟩, [], []⟩
def sx3 : Sx := ⟨sta3, none, 0, 0, none, 0, 0⟩
theorem sta3_right : staR sta3 = true ∧ sta3.km.ok := ⟨by decide, ⟨by decide, by decide, by decide, by decide⟩⟩
theorem sx3_ok (w : World) : sx3.Ok w := ⟨.inl ⟨rfl, rfl, rfl⟩, .inl ⟨rfl, rfl, rfl⟩, sta3_right.2, by decide, by decide⟩
theorem base_new : newDisk 1048576 = baseS none (-1) 0 := rfl
theorem newDisk_inv {room : Int} (h0 : 0 ≤ room) (h1 : room ≤ 1073741824) : DInv (newDisk room) 0 := ⟨newDisk_ok h0 h1, Int.le_refl _, by simp [newDisk], by simp [newDisk, sumF]⟩
theorem base_list (b : List UInt8) (left ops : Int) : ((baseS (some b) left ops).list ⟨#[]⟩).length = 1 := by
  unfold DiskS.list
  rw [(sortS_perm _).length_eq, names_all]
  rfl

set_option maxHeartbeats 16000000 in
set_option maxRecDepth 100000 in
theorem manLast_any (w : World) (a : Option Addr) (n c : Nat) (l : List Sx) (hl : Src w 8 (.slice a n c) n (sxs l)) (hok : ∀ p ∈ l, p.Ok w) (hn : n ≤ 4611686018427387904) (hg : HasET w) :
    Calls Tryz.prog 4 #[.slice a n c] w fun e w' => e = .returned (.bool true) ∧ Ext w w' := by
  have HL := Lib.hid hl
  have HOK := Lib.hid hok
  have HG := Lib.hid hg
  clear hl hok hg
  go_enter Tryz.func4, Tryz.ntmps4
  go_wp2_with fail
  refine (disk_new (by omega) (by omega) w).mono ?_
  rintro e w1 ⟨rfl, hd1, hx1⟩
  rw [base_new] at hd1
  obtain ⟨d, hd⟩ : ∃ d, d = w.heap.size + 1 := ⟨_, rfl⟩
  rw [← hd] at hd1 ⊢
  have HD1 := Lib.hid hd1
  have HX1 := Lib.hid hx1
  have HDD := Lib.hid hd
  clear hd1 hx1 hd
  go_upto_region 5 with fail
  obtain ⟨lb, hlb⟩ : ∃ lb, lb = w1.heap.size := ⟨_, rfl⟩
  rw [← hlb]
  generalize hW : w1.alloc _ = W
  have HXW : Hid (Ext w1 W) := Lib.hid (by rw [← hW]; exact (Ext.refl _).alloc _)
  have HBX : Hid (W.heap[lb]? = some (.cells (staC sta3 none 0 0 none 0 0) 40 (0, 0))) := Lib.hid (by rw [← hW, hlb]; exact heap_alloc_new w1 _)
  have HLB := Lib.hid hlb
  clear hW hlb
  have c0 := cell_of_block HBX.out 0
  have c1 := cell_of_block HBX.out 1
  have c2 := cell_of_block HBX.out 2
  have c3 := cell_of_block HBX.out 3
  have c4 := cell_of_block HBX.out 4
  have c5 := cell_of_block HBX.out 5
  have c6 := cell_of_block HBX.out 6
  have c7 := cell_of_block HBX.out 7
  go_wp2_with fail
  clear c0 c1 c2 c3 c4 c5 c6 c7
  refine (manSave_any (by omega) (newDisk_inv (by omega) (by omega)) (HD1.out.ext HXW.out) sta3 none none 0 0 0 0 (sx3_ok W) (HG.out.ext (HX1.out.trans HXW.out))).mono ?_
  rintro e w2 ⟨rfl, hto⟩
  have hsv : saveS (newDisk 1048576) sta3 = (0, baseS (some (sealL 7 (staP sta3))) (-1) 3) := by
    rw [base_new, save_free sta3_right.1 (by omega) (by decide) (seal_few sta3_right.1 sta3_right.2)]
    rfl
  have hin := (newDisk_inv (room := 1048576) (by omega) (by omega)).save sta3
  rw [hsv] at hto hin ⊢
  have HP : Hid (LaE w d lb 4 w2) := Lib.hid (by
    obtain ⟨B', h1, h2, h3⟩ := hto
    have s1 := HX1.out.size
    have s2 := HLB.out
    have s3 := HDD.out
    have hbl := block_lt HBX.out
    have hd1 := HD1.out.lt
    have hne : lb ∉ [d, w.heap.size] := fun h => by have := hd1 lb h; omega
    refine ⟨sx3, 3, B', sta3_right.1, sx3_ok w, by decide, (h2.block lb hbl hne).trans HBX.out, h1, fun b hb => ?_, fun hb => ?_, by omega, hin, ((Chg.of_ext (S := (· ∈ [d, w.heap.size])) (HX1.out.trans HXW.out)).trans h2 (fun _ _ e => e)).ext (fun i hi e => by simp at e; omega)⟩
    · rcases h3 b hb with e | e
      · simp at e; omega
      · have := HXW.out.size; omega
    · rcases h3 lb hb with e | e
      · exact hne e
      · omega)
  clear hto hin hsv HD1 HX1 HDD HXW HBX HLB
  go_wp2_with fail
  go_loopw [6, 7, 8, 9] (fun s6 s7 s8 s9 wr => ∃ i : Nat, s6 = .int .i64 i ∧ i ≤ n ∧ i ≤ 10 ∧ Hid (LaE w d lb (4 * i + 4) wr)) (fun s6 _ _ _ _ => n - (RowKit.intOf s6).toNat)
  case atStart => exact ⟨0, rfl, by omega, by omega, HP⟩
  case round =>
    clear HP
    obtain ⟨i, rfl, hi, hi10, HP⟩ := hrel
    obtain ⟨p, ops, B, hp⟩ := HP.out
    have HR := Lib.hid hp
    clear hp HP
    rcases Classical.em (i < n ∧ i < 10) with hlt | hno
    · obtain ⟨hlt, hlt10⟩ := hlt
      obtain ⟨qb, qo, q, rfl, hq, hcs⟩ := sxs_src HL.out hlt
      have HQ := Lib.hid (HOK.out q (List.mem_of_getElem? hq))
      have HC : Hid (∀ W, Ext w W → ∀ j u, q.cells[j]? = some u → W.cell? ⟨qb, qo + (i * 8 + j), none⟩ = some u) := Lib.hid (fun W hx j u hu => by
        have := hcs j u hu
        rw [hx.cell (World.block_lt_of_cell? w _ this)]; exact this)
      clear hq hcs
      have q0 := HC.out wr HR.out.ext 0 _ rfl
      have q1 := HC.out wr HR.out.ext 1 _ rfl
      have q2 := HC.out wr HR.out.ext 2 _ rfl
      have q3 := HC.out wr HR.out.ext 3 _ rfl
      have q4 := HC.out wr HR.out.ext 4 _ rfl
      have q5 := HC.out wr HR.out.ext 5 _ rfl
      have q6 := HC.out wr HR.out.ext 6 _ rfl
      have q7 := HC.out wr HR.out.ext 7 _ rfl
      rw [Nat.add_zero] at q0
      rw [← Nat.add_assoc] at q1 q2 q3 q4 q5 q6 q7
      go_wp2_with fail
      refine (few_any wr q.s q.fa q.ta q.fn q.fc q.tn q.tc (HQ.out.ext HR.out.ext)).mono ?_
      rintro e w3 ⟨b3, rfl, hx, hfew⟩
      replace HR := Lib.hid (HR.out.next hx)
      clear hx q0 q1 q2 q3 q4 q5 q6 q7
      cases b3
      · go_wp2_with fail
        go_ret
        exact ⟨rfl, HR.out.ext⟩
      · have HF := Lib.hid (hfew rfl)
        clear hfew
        have q0 := HC.out w3 HR.out.ext 0 _ rfl
        have q1 := HC.out w3 HR.out.ext 1 _ rfl
        have q2 := HC.out w3 HR.out.ext 2 _ rfl
        have q3 := HC.out w3 HR.out.ext 3 _ rfl
        have q4 := HC.out w3 HR.out.ext 4 _ rfl
        have q5 := HC.out w3 HR.out.ext 5 _ rfl
        have q6 := HC.out w3 HR.out.ext 6 _ rfl
        have q7 := HC.out w3 HR.out.ext 7 _ rfl
        rw [Nat.add_zero] at q0
        rw [← Nat.add_assoc] at q1 q2 q3 q4 q5 q6 q7
        go_wp2_with fail
        clear q0 q1 q2 q3 q4 q5 q6 q7
        refine (manSave_any (by omega) HR.out.inv HR.out.disk q.s q.fa q.ta q.fn q.fc q.tn q.tc (HQ.out.ext HR.out.ext) (HG.out.ext HR.out.ext)).mono ?_
        rintro e w4 ⟨rfl, hto⟩
        cases hR : staR q.s with
        | false =>
          rw [save_bad hR] at hto ⊢
          obtain ⟨B', hr2⟩ := HR.out.bad hto
          have HR2 := Lib.hid hr2
          clear hto hr2
          have q0 := HC.out w4 HR2.out.ext 0 _ rfl
          have q1 := HC.out w4 HR2.out.ext 1 _ rfl
          have q2 := HC.out w4 HR2.out.ext 2 _ rfl
          have q3 := HC.out w4 HR2.out.ext 3 _ rfl
          have q4 := HC.out w4 HR2.out.ext 4 _ rfl
          have q5 := HC.out w4 HR2.out.ext 5 _ rfl
          have q6 := HC.out w4 HR2.out.ext 6 _ rfl
          have q7 := HC.out w4 HR2.out.ext 7 _ rfl
          rw [Nat.add_zero] at q0
          rw [← Nat.add_assoc] at q1 q2 q3 q4 q5 q6 q7
          go_wp2_with fail
          clear q0 q1 q2 q3 q4 q5 q6 q7
          refine (manBytes_any w4 q.s q.fa q.ta q.fn q.fc q.tn q.tc (HQ.out.ext HR2.out.ext) (HG.out.ext HR2.out.ext)).mono ?_
          rintro e w5 hby
          unfold BytesTo at hby
          rw [hR, if_neg (by simp)] at hby
          obtain ⟨rfl, hx⟩ := hby
          have HR3 : Hid (LaE w d lb (4 * (i + 1) + 4) w5) := Lib.hid ⟨p, ops, B', (HR2.out.next hx).mono (by omega)⟩
          clear hx HR2 HR hR
          go_wp2_with fail
          go_roundw
          case rel => exact ⟨i + 1, by go_num, by omega, by omega, HR3⟩
          case measure => simp [RowKit.intOf]; omega
        | true =>
          rw [save_free (o := some (sealL 7 (staP p.s))) hR (by omega) (seal_few HR.out.rt HR.out.st.ok) (seal_few hR HQ.out.ok)] at hto ⊢
          obtain ⟨B', hr2⟩ := HR.out.good hR HQ.out HF.out hto
          have HR2 := Lib.hid hr2
          clear hto hr2
          have q0 := HC.out w4 HR2.out.ext 0 _ rfl
          have q1 := HC.out w4 HR2.out.ext 1 _ rfl
          have q2 := HC.out w4 HR2.out.ext 2 _ rfl
          have q3 := HC.out w4 HR2.out.ext 3 _ rfl
          have q4 := HC.out w4 HR2.out.ext 4 _ rfl
          have q5 := HC.out w4 HR2.out.ext 5 _ rfl
          have q6 := HC.out w4 HR2.out.ext 6 _ rfl
          have q7 := HC.out w4 HR2.out.ext 7 _ rfl
          rw [Nat.add_zero] at q0
          rw [← Nat.add_assoc] at q1 q2 q3 q4 q5 q6 q7
          go_wp2_with fail
          clear q0 q1 q2 q3 q4 q5 q6 q7
          refine (manBytes_any w4 q.s q.fa q.ta q.fn q.fc q.tn q.tc (HQ.out.ext HR2.out.ext) (HG.out.ext HR2.out.ext)).mono ?_
          rintro e w5 hby
          unfold BytesTo at hby
          rw [hR, if_pos rfl] at hby
          obtain ⟨a5, c5, rfl, hm⟩ := hby
          have HR3 := Lib.hid (HR2.out.next hm.ext)
          have HB3 := Lib.hid HR3.out.box
          clear hm HR2 HR hR
          have q0 := HC.out w5 HR3.out.ext 0 _ rfl
          have q1 := HC.out w5 HR3.out.ext 1 _ rfl
          have q2 := HC.out w5 HR3.out.ext 2 _ rfl
          have q3 := HC.out w5 HR3.out.ext 3 _ rfl
          have q4 := HC.out w5 HR3.out.ext 4 _ rfl
          have q5 := HC.out w5 HR3.out.ext 5 _ rfl
          have q6 := HC.out w5 HR3.out.ext 6 _ rfl
          have q7 := HC.out w5 HR3.out.ext 7 _ rfl
          rw [Nat.add_zero] at q0
          rw [← Nat.add_assoc] at q1 q2 q3 q4 q5 q6 q7
          go_wp2_with (first | (refine wpList_store_box rfl _ _ _ rfl _ _ _ _ rfl rfl HB3.out rfl sta_info (by simp [Value.oneCell']) ?_; rintro wx hbx hcx; have HBX := Lib.hid hbx; have HCX := Lib.hid hcx; clear hbx hcx q0 q1 q2 q3 q4 q5 q6 q7))
          have HR4 : Hid (LaE w d lb (4 * (i + 1) + 4) wx) := Lib.hid ⟨q, ops + 3, B', (HR3.out.put HBX.out HCX.out).mono (by omega)⟩
          clear HR3 HB3 HBX HCX
          go_roundw
          case rel => exact ⟨i + 1, by go_num, by omega, by omega, HR4⟩
          case measure => simp [RowKit.intOf]; omega
    · have hst : ¬ (i : Int) < (n : Int) ∨ ((i : Int) < (n : Int) ∧ ¬ (i : Int) < 10) := by omega
      have hlo := load_base HR.out.rt HR.out.st.ok (-1) ops
      have HLO := Lib.hid (manLoad_any HR.out.inv.ok HR.out.disk (HG.out.ext HR.out.ext))
      rw [hlo] at HLO
      clear hno hlo
      obtain ⟨⟨x, r, q, ⟨mb, mt, mg⟩, fl, ti⟩, fa, fn, fc, ta, tn, tc⟩ := p
      rcases hst with hst | ⟨hst, hst2⟩
      all_goals
        go_wp2_with fail
        refine HLO.out.mono ?_
        rintro e w4 ⟨za, zn, zc, ya, yn, yc, rfl, hx, hin⟩
        have HZ4 := Lib.hid hin
        have HR4 := Lib.hid (HR.out.next hx)
        clear hx hin HLO HR
        have HFL : Hid (fn ≤ 900 ∧ tn ≤ 900 ∧ zn = fn ∧ yn = tn) := Lib.hid (by
          have h1 := fls_src_len HZ4.out.fl
          have h2 := trs_src_len HZ4.out.ti
          have h3 := fls_src_len HR4.out.st.fl
          have h4 := trs_src_len HR4.out.st.ti
          have h5 := HR4.out.few
          simp only at h1 h2 h3 h4 h5
          omega)
        obtain ⟨-, -, rfl, rfl⟩ := HFL.out
        go_upto_region 19 with fail
        obtain ⟨b9, hb9⟩ : ∃ k, k = w4.heap.size := ⟨_, rfl⟩
        rw [← hb9]
        generalize hW : w4.alloc _ = w5
        have hx5 : Ext w4 w5 := by rw [← hW]; exact (Ext.refl w4).alloc _
        have HB9 : Hid (w5.heap[b9]? = some (.cells #[.int .i64 x, .int .i64 r, .int .i64 q, .bool mb, .int .i64 mt, .int .i64 mg, .slice za zn zc, .slice ya yn yc] 40 (0, 0))) := Lib.hid (by rw [← hW, hb9]; exact heap_alloc_new w4 _)
        have HR5 := Lib.hid (HR4.out.next hx5)
        have HZ5 := Lib.hid (HZ4.out.ext hx5)
        clear hW hb9 hx5 HR4 HZ4
        have g2 : ∀ (d : Nat) (f : Nat → Obj) (os : Array Obj), (Instr.loadAt 40 (.pointer (some ⟨b9, 0, none⟩))).run Tryz.prog (turned w5 (fun _ => false) d f os) = .ok (.agg #[.int .i64 x, .int .i64 r, .int .i64 q, .bool mb, .int .i64 mt, .int .i64 mg, .slice za zn zc, .slice ya yn yc]) (turned w5 (fun _ => false) d f os) := fun d f os => load_box_turned HB9.out rfl Tryz.underlying40 rfl sta_info d f os
        have g3 : ∀ (d : Nat) (f : Nat → Obj) (os : Array Obj), (Instr.loadAt 40 (.pointer (some ⟨lb, 0, none⟩))).run Tryz.prog (turned w5 (fun _ => false) d f os) = .ok (.agg #[.int .i64 x, .int .i64 r, .int .i64 q, .bool mb, .int .i64 mt, .int .i64 mg, .slice fa zn fc, .slice ta yn tc]) (turned w5 (fun _ => false) d f os) := fun d f os => load_box_turned HR5.out.box rfl Tryz.underlying40 rfl sta_info d f os
        go_wp2_with fail
        refine wp_region_plan 18 (fun w' => ∃ z : Turned, w' = turned w5 (fun _ => false) z.d z.f z.os) (.reads [0, 1, 2, 3, 4, 5, 6, 8] (.one 7 (.one 9 (.one 10 (.reads [11, 12, 13] (.one 14 (.reads [15, 16, 17] (.one 18 .done)))))))) (by kernel_rfl) (by kernel_rfl) (fun _ _ dd _ _ hh => by cases dd <;> exact hh) ?_ ?_
        · exact turned_of_ext (Ext.drewN w5 1)
        refine wpPlan_reads ?_
        simp only [pickOps, List.getElem?_cons_succ, List.getElem?_cons_zero]
        repeat (first | (go_big_quiet_want; refine mq_load _ _ rfl _ _ rfl (fun w hw => by obtain ⟨z, rfl⟩ := hw; exact g2 z.d z.f z.os) ?_; go_big_quiet_on; simp only [Act.put, List.setIfInBounds_toArray, List.set_cons_succ, List.set_cons_zero]) | (go_big_quiet_want; refine mq_load _ _ rfl _ _ rfl (fun w hw => by obtain ⟨z, rfl⟩ := hw; exact g3 z.d z.f z.os) ?_; go_big_quiet_on; simp only [Act.put, List.setIfInBounds_toArray, List.set_cons_succ, List.set_cons_zero]) | (go_big_quiet_step (fail)))
        refine wpQuiet_nil ?_
        clear g2 g3
        refine wpPlan_one ?_
        simp only [pickOps, List.getElem?_cons_succ, List.getElem?_cons_zero]
        have hz1 : zn ≤ 4096 := by have := HFL.out; omega
        have hz2 : yn ≤ 4096 := by have := HFL.out; omega
        go_wp2_with fail
        refine (manOwn_any _ ⟨x, r, q, ⟨mb, mt, mg⟩, fl, ti⟩ za ya zn zc yn yc (HZ5.out.ext (Ext.drewN w5 1)) hz1 hz2).mono ?_
        rintro e w6 ⟨oa, oc, pa, pc, rfl, hx, hin⟩
        have HXE := Lib.hid ((Ext.drewN w5 1).trans hx)
        have HOI := Lib.hid hin
        clear hx hin
        go_wp2_with fail
        refine thenX_mk (turned_of_ext HXE.out) (wpPlan_one ?_)
        simp only [pickOps, List.getElem?_cons_succ, List.getElem?_cons_zero]
        go_wp2_with fail
        refine (manOwn_any w6 ⟨x, r, q, ⟨mb, mt, mg⟩, fl, ti⟩ fa ta zn fc yn tc (HR5.out.st.ext (HR5.out.ext.trans HXE.out)) hz1 hz2).mono ?_
        rintro e w7 ⟨ua, uc, va, vc, rfl, hx, hin⟩
        have HXF := Lib.hid (HXE.out.trans hx)
        have HOJ := Lib.hid hin
        have HOI2 := Lib.hid (HOI.out.ext hx)
        clear hx hin
        go_wp2_with fail
        refine thenX_mk (turned_of_ext HXF.out) (wpPlan_one ?_)
        simp only [pickOps, List.getElem?_cons_succ, List.getElem?_cons_zero]
        go_wp2_with fail
        refine (ref18Same_any w7 ⟨x, r, q, ⟨mb, mt, mg⟩, fl, ti⟩ oa pa ua va zn oc yn pc uc vc HOI2.out HOJ.out).mono ?_
        rintro e w8 ⟨rfl, hx⟩
        have HXG := Lib.hid (HXF.out.trans hx)
        clear hx
        go_wp2_with fail
        refine thenX_mk (turned_of_ext HXG.out) (wpPlan_reads ?_)
        simp only [pickOps, List.getElem?_cons_succ, List.getElem?_cons_zero]
        repeat (go_big_quiet_step (fail))
        refine wpQuiet_nil ?_
        refine wpPlan_one ?_
        simp only [pickOps, List.getElem?_cons_succ, List.getElem?_cons_zero]
        have HR8 := Lib.hid (HR5.out.next HXG.out)
        go_wp2_with fail
        refine (disk_list HR8.out.inv.ok HR8.out.disk ⟨#[]⟩).mono ?_
        rintro e w9 ⟨v9, rfl, hst9⟩
        have hrow := hst9.row
        rw [base_list] at hrow
        obtain ⟨a9, c9, rfl⟩ := hrow.shape
        have HXH := Lib.hid (HXG.out.trans hst9.ext)
        clear hst9 hrow
        go_wp2_with fail
        refine thenX_mk (turned_of_ext HXH.out) (wpPlan_reads ?_)
        simp only [pickOps, List.getElem?_cons_succ, List.getElem?_cons_zero]
        repeat (go_big_quiet_step (fail))
        refine wpQuiet_nil ?_
        refine wpPlan_one ?_
        simp only [pickOps, List.getElem?_cons_succ, List.getElem?_cons_zero]
        go_wp2_with fail
        refine thenX_last (wpPlan_done ?_)
        go_wp2_with fail
        go_ret
        exact ⟨rfl, HR5.out.ext.trans HXH.out⟩
end Go.Proofs.YtgdgjnecgelalaaGreatDoor

/-! What the row lists of errors.errorType, for the walks. -/

namespace Go.Proofs.YtgdgjnecgelalaaGreatDoor
open Go.ChangeShapes Go.WideShapes Go.RowKit

theorem et_glob : Tryz.prog.globalNamed "errors.errorType" = some 0 := by kernel_rfl
theorem et_rt : (Tryz.prog.cutTypes.find? (·.1 == "internal/reflectlite.rtype")).map (·.2) = some 215 := by kernel_rfl
theorem et_one : ((List.range Tryz.prog.types.size).filter fun t => Tryz.prog.rowNamed t [101, 114, 114, 111, 114]) = [179] := by kernel_rfl

theorem hasET_of_laid {W : World} (h : laidMetH Tryz.prog [("errors.errorType", Rows.laid_errors_errorType)] W) : HasET W := by
  have h' : laidMet Tryz.prog [] W ∧ handlesMet Tryz.prog [("errors.errorType", Rows.laid_errors_errorType)] W := h
  obtain ⟨name, u, ty, e1, e2, e3, e4, e5⟩ := h'.2 _ (List.mem_singleton.2 rfl)
  have en : name = [101, 114, 114, 111, 114] := (Option.some.inj e1).symm
  subst en
  obtain rfl := Option.some.inj (et_rt.symm.trans e2)
  have hm : ty ∈ (List.range Tryz.prog.types.size).filter fun t => Tryz.prog.rowNamed t [101, 114, 114, 111, 114] := List.mem_filter.2 ⟨List.mem_range.2 e3, e4⟩
  rw [et_one] at hm
  obtain rfl := List.mem_singleton.1 hm
  have hh : typeHandle Tryz.prog 179 = .pointer (some ⟨hB, 179, none⟩) := by kernel_rfl
  rw [hh] at e5
  unfold HasET
  simpa using World.var?_cell et_glob e5 0
end Go.Proofs.YtgdgjnecgelalaaGreatDoor
