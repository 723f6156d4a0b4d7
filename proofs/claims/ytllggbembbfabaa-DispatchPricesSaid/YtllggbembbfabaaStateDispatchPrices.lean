-- Written by xprint.py of this session.
import Derived.Test.YtllggbembbfabaaOk
import Derived.Test.YtllggbembbfabaaPx56
namespace Go.Proofs.Ytllggbembbfabaa.P
open Go.RowKit Go.Proofs.YtllggbembbfabaaW.PrintWords Go.Proofs.YtllggbembbfabaaW.PrintLast Go.Proofs.Ytllggbembbfabaa.Opn
/-- The law 'DispatchPrices' over numbers and lists alone. -/
def DispatchPrices.Pure : Prop := ∀ (l0 : List (S60)) (a1 : Int) (a2 : Int), (ListOk 40 ok60) l0 → I64 a1 → I64 a2 → ∃ k, gridhallkeep3_DispatchPrices.f k l0 a1 a2 = some true
end Go.Proofs.Ytllggbembbfabaa.P
