/- Points as elements of a slice. -/
import Derived.Test.YthnpchfcafaiiaaApp
import Derived.Test.YthnpchfcafaiiaaProg
import Derived.WalkKit
namespace Go.Proofs.Ythnpchfcafaiiaa
open Go.RowKit Go.Sort Go.Lib

theorem elem_pt : ElemOk Try.prog 22 35 3 24 :=
  ⟨Try.underlying22, by
    obtain ⟨i0, hi, hz0, hz1, hz2⟩ := info_parts (show (Try.prog.info? 35).map (fun i => (i.zero, i.size, i.bytes)) = some (some (.agg #[.int .i64 0, .int .i64 0, .int .i64 0]), 3, 24) from by kernel_rfl)
    exact ⟨i0, _, hi, hz0, hz1, hz2, rfl⟩, by decide⟩
theorem src_pt (w : World) (p : Pt) (fr : Nat × Nat) : Src (w.alloc (.cells #[.int .i64 p.t, .int .i64 p.v, .int .i64 p.s] 35 fr)) 3 (.slice (some ⟨w.heap.size, 0, none⟩) 1 1) 1 (pts [p]) :=
  src_new w #[.int .i64 p.t, .int .i64 p.v, .int .i64 p.s] 35 3 1 fr rfl (pts_one [p])

end Go.Proofs.Ythnpchfcafaiiaa
