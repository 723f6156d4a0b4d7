-- Written by xprint.py of this session.
import Derived.Test.YtllggbembbfabaaOk
import Derived.Test.YtllggbembbfabaaPx15
namespace Go.Proofs.Ytllggbembbfabaa.P
open Go.RowKit Go.Proofs.YtllggbembbfabaaW.PrintWords Go.Proofs.YtllggbembbfabaaW.PrintLast Go.Proofs.Ytllggbembbfabaa.Opn
/-- The law 'ConvexLeast' over numbers and lists alone. -/
def ConvexLeast.Pure : Prop := ∀ (a0 : S34) (a1 : Int), ok34 a0 → I64 a1 → ∃ k, gridhallkeep3_ConvexLeast.f k a0.f0 a0.f1 a0.f2 a1 = some true
end Go.Proofs.Ytllggbembbfabaa.P
