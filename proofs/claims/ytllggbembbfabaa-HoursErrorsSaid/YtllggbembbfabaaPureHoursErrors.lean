/- The law HoursErrors over numbers and lists, under the name that its row asks for. -/
import Derived.Test.YtllggbembbfabaaLHours
namespace Go.Proofs.Ytllggbembbfabaa.Pure
open Go.Proofs.Ytllggbembbfabaa.P
theorem HoursErrors : HoursErrors.Pure := hoursErrors_pure
end Go.Proofs.Ytllggbembbfabaa.Pure
