-- Written by xprint.py of this session.
import Derived.Test.YtllggbembbfabaaOk
import Derived.Test.YtllggbembbfabaaPx29
namespace Go.Proofs.Ytllggbembbfabaa.P
open Go.RowKit Go.Proofs.YtllggbembbfabaaW.PrintWords Go.Proofs.YtllggbembbfabaaW.PrintLast Go.Proofs.Ytllggbembbfabaa.Opn
/-- The law 'UnitParts' over numbers and lists alone. -/
def UnitParts.Pure : Prop := ∀ (a0 : S43) (a1 : S45) (l2 : List Int) (a3 : Int), ok43 a0 → ok45 a1 → (ListOk 8 I64) l2 → I64 a3 → ∃ k, gridhallkeep3_UnitParts.f k a0.f0 a0.f1 a0.f2 a0.f3 a0.f4 a0.f5 a0.f6 a0.f7 a1.f0 a1.f1 a1.f2 l2 a3 = some true
end Go.Proofs.Ytllggbembbfabaa.P
