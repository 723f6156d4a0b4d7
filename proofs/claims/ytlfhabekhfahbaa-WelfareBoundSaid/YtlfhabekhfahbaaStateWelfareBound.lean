-- Written by xprint.py of this session.
import Derived.Test.YtlfhabekhfahbaaOk
import Derived.Test.YtlfhabekhfahbaaPx27
namespace Go.Proofs.Ytlfhabekhfahbaa.P
open Go.RowKit Go.Proofs.YtlfhabekhfahbaaW.PrintWords Go.Proofs.YtlfhabekhfahbaaW.PrintLast Go.Proofs.Ytlfhabekhfahbaa.Opn
/-- The law 'WelfareBound' over numbers and lists alone. -/
def WelfareBound.Pure : Prop := ∀ (l0 : List (S29)) (l1 : List Int) (a2 : Int) (a3 : Int), (ListOk 40 ok29) l0 → (ListOk 8 I64) l1 → I64 a2 → I64 a3 → ∃ k, gridhallkeep3_WelfareBound.f k l0 l1 a2 a3 = some true
end Go.Proofs.Ytlfhabekhfahbaa.P
