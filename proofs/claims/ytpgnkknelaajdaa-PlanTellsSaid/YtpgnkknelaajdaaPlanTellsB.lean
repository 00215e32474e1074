/- PlanTells: the walk, whatever comes. -/
import Derived.Test.YtpgnkknelaajdaaPlanTells
import Derived.Test.YtpgnkknelaajdaaOpq
namespace Go.Proofs.Ytpgnkknelaajdaa
open Go.RowKit Go.Sort Go.Lib

theorem planTells_any (op fn : Int) (ser oth : ByteArray) (fr to wd st off gap tol fill : Int) (hse : ser.size ≤ maxLen) (hot : oth.size ≤ maxLen) (low : Int) (w : World) (a : Option Addr) (n c : Nat) (l : List Ti) (hs : Src w 5 (.slice a n c) n (tis l)) (hn : n ≤ 4398046511104) :
    Calls Try.prog 3 #[qV op fn ser oth fr to wd st off gap tol fill, .slice a n c, .int .i64 low] w fun e w' => e = .returned (.bool true) ∧ Ext w w' := by
  cases hfi : fineB n l with
  | false => exact planTells_not op fn ser oth fr to wd st off gap tol fill low w a n c l hs hn hfi
  | true =>
    obtain ⟨cs, bp, er, hB⟩ := both op fn ser oth fr to wd st off gap tol fill hse hot low n l hfi
    exact planTells_ok op fn ser oth fr to wd st off gap tol fill low w a n c l hs hn hfi cs bp er hB

end Go.Proofs.Ytpgnkknelaajdaa
