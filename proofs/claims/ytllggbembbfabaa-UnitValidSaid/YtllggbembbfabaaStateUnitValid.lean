-- Written by xprint.py of this session.
import Derived.Test.YtllggbembbfabaaOk
import Derived.Test.YtllggbembbfabaaPx24
namespace Go.Proofs.Ytllggbembbfabaa.P
open Go.RowKit Go.Proofs.YtllggbembbfabaaW.PrintWords Go.Proofs.YtllggbembbfabaaW.PrintLast Go.Proofs.Ytllggbembbfabaa.Opn
/-- The law 'UnitValid' over numbers and lists alone. -/
def UnitValid.Pure : Prop := ∀ (a0 : S43) (a1 : S45) (a2 : Int), ok43 a0 → ok45 a1 → I64 a2 → ∃ k, gridhallkeep3_UnitValid.f k a0.f0 a0.f1 a0.f2 a0.f3 a0.f4 a0.f5 a0.f6 a0.f7 a1.f0 a1.f1 a1.f2 a2 = some true
end Go.Proofs.Ytllggbembbfabaa.P
