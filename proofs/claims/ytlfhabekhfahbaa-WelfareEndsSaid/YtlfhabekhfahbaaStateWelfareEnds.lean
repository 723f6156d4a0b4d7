-- Written by xprint.py of this session.
import Derived.Test.YtlfhabekhfahbaaOk
import Derived.Test.YtlfhabekhfahbaaPx19
namespace Go.Proofs.Ytlfhabekhfahbaa.P
open Go.RowKit Go.Proofs.YtlfhabekhfahbaaW.PrintWords Go.Proofs.YtlfhabekhfahbaaW.PrintLast Go.Proofs.Ytlfhabekhfahbaa.Opn
/-- The law 'WelfareEnds' over numbers and lists alone. -/
def WelfareEnds.Pure : Prop := ∀ (l0 : List (S29)) (l1 : List Int), (ListOk 40 ok29) l0 → (ListOk 8 I64) l1 → ∃ k, gridhallkeep3_WelfareEnds.f k l0 l1 = some true
end Go.Proofs.Ytlfhabekhfahbaa.P
