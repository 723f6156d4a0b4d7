-- Written by xprint.py of this session.
import Derived.Test.YtllggbembbfabaaOk
import Derived.Test.YtllggbembbfabaaPx54
namespace Go.Proofs.Ytllggbembbfabaa.P
open Go.RowKit Go.Proofs.YtllggbembbfabaaW.PrintWords Go.Proofs.YtllggbembbfabaaW.PrintLast Go.Proofs.Ytllggbembbfabaa.Opn
/-- The law 'DispatchSum' over numbers and lists alone. -/
def DispatchSum.Pure : Prop := ∀ (l0 : List (S60)) (a1 : Int) (l2 : List Int), (ListOk 40 ok60) l0 → I64 a1 → (ListOk 8 I64) l2 → ∃ k, gridhallkeep3_DispatchSum.f k l0 a1 l2 = some true
end Go.Proofs.Ytllggbembbfabaa.P
