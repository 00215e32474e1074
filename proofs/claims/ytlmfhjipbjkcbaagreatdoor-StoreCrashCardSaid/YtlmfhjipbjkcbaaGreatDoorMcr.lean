/- x -/
import Derived.Test.YtlmfhjipbjkcbaaGreatDoorSvc
import Derived.Test.YtlmfhjipbjkcbaaGreatDoorOac
set_option linter.unusedSimpArgs false
set_option linter.unusedVariables false
namespace Go.Proofs.YtlmfhjipbjkcbaaGreatDoor
open Go.RowKit Go.Sort Go.Lib
theorem sortF_some {F:Fs}(hn:(F.map (·.1)).Nodup):∃D,SortF D F:=by
 have hp:=List.mergeSort_perm F (fun p q=>decide (bl p.1≤bl q.1))
 have hs:(F.mergeSort (fun p q=>decide (bl p.1≤bl q.1))).Pairwise (fun p q=>decide (bl p.1≤bl q.1)=true) :=
  List.pairwise_mergeSort (fun a b c h k=>by simp only [yaL] at *;exact List.le_trans h k) (fun a b=>by rcases List.le_total (bl a.1) (bl b.1) with h|h<;>simp [h]) F
 refine ⟨_,hp,?_⟩
 have hn2:((F.mergeSort (fun p q=>decide (bl p.1≤bl q.1))).map (·.1)).Nodup:=(hp.map _).nodup_iff.2 hn
 rw [List.pairwise_map]
 rw [List.nodup_iff_pairwise_ne,List.pairwise_map] at hn2
 refine (hs.and hn2).imp ?_
 rintro p q ⟨h1,h2⟩
 simp only [yaL] at h1
 rcases Classical.em (bl p.1<bl q.1) with h|h
 ·exact h
 ·exact absurd (bl_inj (List.le_antisymm h1 (List.not_lt.1 h))) h2
theorem DInv.crash' {S:DiskS}{k:Nat}(h:DInv S k) (keep:List Int):DInv (S.crash keep) 0:=by
 obtain ⟨D,hD⟩:=sortF_some h.ok.names
 exact h.crash hD keep
end Go.Proofs.YtlmfhjipbjkcbaaGreatDoor
