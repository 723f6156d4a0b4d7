-- Written by xprint.py of this session.
import Derived.Test.YtllggbembbfabaaOk
import Derived.Test.YtllggbembbfabaaPx43
namespace Go.Proofs.Ytllggbembbfabaa.P
open Go.RowKit Go.Proofs.YtllggbembbfabaaW.PrintWords Go.Proofs.YtllggbembbfabaaW.PrintLast Go.Proofs.Ytllggbembbfabaa.Opn
/-- The law 'OfferRises' over numbers and lists alone. -/
def OfferRises.Pure : Prop := ∀ (a0 : S60) (a1 : Int) (a2 : Int), ok60 a0 → I64 a1 → I64 a2 → ∃ k, gridhallkeep3_OfferRises.f k a0.f0 a0.f1 a1 a2 = some true
end Go.Proofs.Ytllggbembbfabaa.P
