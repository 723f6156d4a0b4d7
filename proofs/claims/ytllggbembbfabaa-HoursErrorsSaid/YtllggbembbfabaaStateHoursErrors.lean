-- Written by xprint.py of this session.
import Derived.Test.YtllggbembbfabaaOk
import Derived.Test.YtllggbembbfabaaPx7
namespace Go.Proofs.Ytllggbembbfabaa.P
open Go.RowKit Go.Proofs.YtllggbembbfabaaW.PrintWords Go.Proofs.YtllggbembbfabaaW.PrintLast Go.Proofs.Ytllggbembbfabaa.Opn
/-- The law 'HoursErrors' over numbers and lists alone. -/
def HoursErrors.Pure : Prop := ∀ (l0 : List Int) (l1 : List Int), (ListOk 8 I64) l0 → (ListOk 8 I64) l1 → ∃ k, gridhallkeep3_HoursErrors.f k l0 l1 = some true
end Go.Proofs.Ytllggbembbfabaa.P
