-- Written by xprint.py of this session.
import Derived.Test.YtllggbembbfabaaOk
import Derived.Test.YtllggbembbfabaaPx39
namespace Go.Proofs.Ytllggbembbfabaa.P
open Go.RowKit Go.Proofs.YtllggbembbfabaaW.PrintWords Go.Proofs.YtllggbembbfabaaW.PrintLast Go.Proofs.Ytllggbembbfabaa.Opn
/-- The law 'OfferConvex' over numbers and lists alone. -/
def OfferConvex.Pure : Prop := ∀ (a0 : S60) (a1 : Int), ok60 a0 → I64 a1 → ∃ k, gridhallkeep3_OfferConvex.f k a0.f0 a0.f1 a1 = some true
end Go.Proofs.Ytllggbembbfabaa.P
