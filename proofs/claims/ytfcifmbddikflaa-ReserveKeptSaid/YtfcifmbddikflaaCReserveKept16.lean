/- Texts of the claim, put together: WEqStruct. -/
import Derived.Test.YtfcifmbddikflaaCReserveKept0
import Derived.Laws.StructEq
namespace Go.Proofs.YtfcifmbddikflaaW.PrintWords
open Go.RowKit
section
variable {P : Program} {d : Nat} {xs ys : Array Value} {f : Field} {fs : List Field} {a b : Value} {r s : Bool} {w : World}
end
end Go.Proofs.YtfcifmbddikflaaW.PrintWords
