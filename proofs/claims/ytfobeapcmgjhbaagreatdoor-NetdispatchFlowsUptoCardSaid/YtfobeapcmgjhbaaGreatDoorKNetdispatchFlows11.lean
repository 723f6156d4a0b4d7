/- Texts behind the law NetdispatchFlows, part 11 (no statement is proved here). -/
import Derived.Test.YtfobeapcmgjhbaaGreatDoorKNetdispatchFlows10
namespace Go.Proofs.YtfobeapcmgjhbaaGreatDoor.VE
open Go Go.RowKit
set_option linter.unusedVariables false
attribute [local irreducible] wrap64
def busS (n:NetT) (t:List Int×List Int) (s:ByteArray):Int:=rI64 t.1 (idxS n.1 s)
theorem qe6 {n:NetT} {t:List Int×List Int} (ht:TopoP n t) {s:ByteArray} (hs:s∈n.1):0≤busS n t s∧busS n t s<t.2.length:=by
 have hi:=qbO hs
 have:=ht.bus (idxS n.1 s).toNat (by omega)
 rw [show (((idxS n.1 s).toNat:Nat):Int)=idxS n.1 s by omega] at this
 exact this
end Go.Proofs.YtfobeapcmgjhbaaGreatDoor.VE
