/- The set-up's own test of a dispatch (a lemma; no statement is proved here). -/
import Derived.Test.YtllggbembbfabaaEvp
import Derived.Test.YtllggbembbfabaaPx52
namespace Go.Proofs.Ytllggbembbfabaa.P
open Go.RowKit Go.Proofs.YtllggbembbfabaaW.PrintWords Go.Proofs.YtllggbembbfabaaW.PrintMore Go.Proofs.Ytllggbembbfabaa.Opn Go.Proofs.Ytllggbembbfabaa.Evp
theorem served_ev : Ev (fun k => gridhallkeep3_served.f k) true := Ev.of (fun k => gridhallkeep3_served.mono k) (k := 40) (by decide +kernel)
end Go.Proofs.Ytllggbembbfabaa.P
