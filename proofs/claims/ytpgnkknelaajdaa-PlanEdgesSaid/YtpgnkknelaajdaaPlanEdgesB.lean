/- PlanEdges: the walk, whatever comes. -/
import Derived.Test.YtpgnkknelaajdaaPlanEdgesA
import Derived.Test.YtpgnkknelaajdaaOpq
namespace Go.Proofs.Ytpgnkknelaajdaa
open Go.RowKit Go.Sort Go.Lib

theorem planEdges_any (op fn : Int) (ser oth : ByteArray) (fr to wd st off gap tol fill : Int) (hse : ser.size ≤ maxLen) (hot : oth.size ≤ maxLen) (low : Int) (w : World) (a : Option Addr) (n c : Nat) (l : List Ti) (hs : Src w 5 (.slice a n c) n (tis l)) (hn : n ≤ 4398046511104) :
    Calls Try.prog 4 #[qV op fn ser oth fr to wd st off gap tol fill, .slice a n c, .int .i64 low] w fun e w' => e = .returned (.bool true) ∧ Ext w w' := by
  cases hfi : fineB n l with
  | false => exact planEdges_not op fn ser oth fr to wd st off gap tol fill low w a n c l hs hn (.inl hfi)
  | true =>
    by_cases hl : low < -1152921504606846976 ∨ 1152921504606846976 < low
    · exact planEdges_not op fn ser oth fr to wd st off gap tol fill low w a n c l hs hn (.inr hl)
    · cases hck : planCheckB op fn ser oth fr to wd st off gap tol fill with
      | false => exact planEdges_bad op fn ser oth fr to wd st off gap tol fill hse hot low w a n c l hs hn hfi (by omega) (by omega) hck
      | true => exact planEdges_ok op fn ser oth fr to wd st off gap tol fill hse hot low w a n c l hs hn hfi (by omega) (by omega) hck

end Go.Proofs.Ytpgnkknelaajdaa
