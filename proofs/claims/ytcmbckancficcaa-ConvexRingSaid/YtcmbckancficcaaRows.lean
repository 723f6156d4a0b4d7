/-
  No cell of these rows narrows 'for every input' (looked for: loops, veiled, ifaces, maps, wideKeys, modest, calm, conditions, laid).
  DERIVED. THE GIVEN ROWS OF THIS SEAT. 12 by the template 'for every input the law returns true; each argument reads behind the call as it read before'; 0 by the template 'total and deterministic' (their statements: YtcmbckancficcaaTotals.lean).
  GIVEN WITH THE SEED: the statements are not yours to turn. If you find one false, say at which input.
  Laid BY PROGRAM, IN A SANDBOX (cutbox-rows.mjs): the forced cells as the released guide's own fill.sh prints them over the translation be17952fe0977db9… (all of the seat's roots in one cut). By AI agents, Wed Nov 11 2026. No macro, syntax, notation, axiom, sorry.
-/
import Derived.Test.YtcmbckancficcaaChecked
import GoSem.Claim
import GoSem.ClaimJoined
import GoSem.ClaimMapViews
import Derived.JoinedTies
import Derived.KernelRfl
namespace Go.Proofs.Ytcmbckancficcaa
/- THE CELL 'sum', in the pinned program and in every row, IS THE sha256 OF THE DUMP (.gsa) THAT YtcmbckancficcaaProg.lean LOADS. Nothing in Lean hashes anything: it is a label: what it is worth is what the hold of that sum in a sandbox is worth. -/
noncomputable def Try.pinned : Pinned := { name := "ytcmbckancficcaa", sum := "be17952fe0977db943e28e8c56d820439645a98f72dfb3697410d7ff727dacd8", checked := Try.checked }
namespace Rows
def none {H : Type} : Left H := { results := [], args := [] }

/-- 'gridhallkeep3.HoursSums': WHATEVER THE INPUT: true; the input reads as it did. -/
def hoursSumsSpec : ChangeSpec := { name := "hoursSums", fn := fun _ => fun
  | [d1, d2, d3] => { results := [.lit (.bool true)], args := [d1, d2, d3] }
  | _ => none }
def hoursSumsRow : OpenClaim := { program := "ytcmbckancficcaa", sum := "be17952fe0977db943e28e8c56d820439645a98f72dfb3697410d7ff727dacd8", func := "gridhall/gridhallkeep3.HoursSums", spec := "hoursSums", unfollowed := true, recurses := true, apart := false }
def HoursSumsSaid : Prop := hoursSumsRow.holds Try.pinned (OpenSpec.ofChange hoursSumsSpec)

/-- ITS FALSE NEIGHBOUR: 'it returns false'. Refute it at one input. -/
def hoursSumsWrong : ChangeSpec := { name := "hoursSums", fn := fun _ => fun
  | [d1, d2, d3] => { results := [.lit (.bool false)], args := [d1, d2, d3] }
  | _ => none }
def HoursSumsWrongFalsely : Prop := hoursSumsRow.holds Try.pinned (OpenSpec.ofChange hoursSumsWrong)

/-- 'gridhallkeep3.ConvexParts': WHATEVER THE INPUT: true; the input reads as it did. -/
def convexPartsSpec : ChangeSpec := { name := "convexParts", fn := fun _ => fun
  | [d1, d2, d3] => { results := [.lit (.bool true)], args := [d1, d2, d3] }
  | _ => none }
def convexPartsRow : OpenClaim := { program := "ytcmbckancficcaa", sum := "be17952fe0977db943e28e8c56d820439645a98f72dfb3697410d7ff727dacd8", func := "gridhall/gridhallkeep3.ConvexParts", spec := "convexParts", unfollowed := true, recurses := true, apart := false }
def ConvexPartsSaid : Prop := convexPartsRow.holds Try.pinned (OpenSpec.ofChange convexPartsSpec)

/-- ITS FALSE NEIGHBOUR: 'it returns false'. Refute it at one input. -/
def convexPartsWrong : ChangeSpec := { name := "convexParts", fn := fun _ => fun
  | [d1, d2, d3] => { results := [.lit (.bool false)], args := [d1, d2, d3] }
  | _ => none }
def ConvexPartsWrongFalsely : Prop := convexPartsRow.holds Try.pinned (OpenSpec.ofChange convexPartsWrong)

/-- 'gridhallkeep3.ConvexTurns': WHATEVER THE INPUT: true; the input reads as it did. -/
def convexTurnsSpec : ChangeSpec := { name := "convexTurns", fn := fun _ => fun
  | [d1, d2, d3] => { results := [.lit (.bool true)], args := [d1, d2, d3] }
  | _ => none }
def convexTurnsRow : OpenClaim := { program := "ytcmbckancficcaa", sum := "be17952fe0977db943e28e8c56d820439645a98f72dfb3697410d7ff727dacd8", func := "gridhall/gridhallkeep3.ConvexTurns", spec := "convexTurns", unfollowed := true, recurses := true, apart := false }
def ConvexTurnsSaid : Prop := convexTurnsRow.holds Try.pinned (OpenSpec.ofChange convexTurnsSpec)

/-- ITS FALSE NEIGHBOUR: 'it returns false'. Refute it at one input. -/
def convexTurnsWrong : ChangeSpec := { name := "convexTurns", fn := fun _ => fun
  | [d1, d2, d3] => { results := [.lit (.bool false)], args := [d1, d2, d3] }
  | _ => none }
def ConvexTurnsWrongFalsely : Prop := convexTurnsRow.holds Try.pinned (OpenSpec.ofChange convexTurnsWrong)

/-- 'gridhallkeep3.ConvexFenchel': WHATEVER THE INPUT: true; the input reads as it did. -/
def convexFenchelSpec : ChangeSpec := { name := "convexFenchel", fn := fun _ => fun
  | [d1, d2, d3, d4] => { results := [.lit (.bool true)], args := [d1, d2, d3, d4] }
  | _ => none }
def convexFenchelRow : OpenClaim := { program := "ytcmbckancficcaa", sum := "be17952fe0977db943e28e8c56d820439645a98f72dfb3697410d7ff727dacd8", func := "gridhall/gridhallkeep3.ConvexFenchel", spec := "convexFenchel", unfollowed := true, recurses := true, apart := false }
def ConvexFenchelSaid : Prop := convexFenchelRow.holds Try.pinned (OpenSpec.ofChange convexFenchelSpec)

/-- ITS FALSE NEIGHBOUR: 'it returns false'. Refute it at one input. -/
def convexFenchelWrong : ChangeSpec := { name := "convexFenchel", fn := fun _ => fun
  | [d1, d2, d3, d4] => { results := [.lit (.bool false)], args := [d1, d2, d3, d4] }
  | _ => none }
def ConvexFenchelWrongFalsely : Prop := convexFenchelRow.holds Try.pinned (OpenSpec.ofChange convexFenchelWrong)

/-- 'gridhallkeep3.ConvexOffer': WHATEVER THE INPUT: true; the input reads as it did. -/
def convexOfferSpec : ChangeSpec := { name := "convexOffer", fn := fun _ => fun
  | [d1, d2] => { results := [.lit (.bool true)], args := [d1, d2] }
  | _ => none }
def convexOfferRow : OpenClaim := { program := "ytcmbckancficcaa", sum := "be17952fe0977db943e28e8c56d820439645a98f72dfb3697410d7ff727dacd8", func := "gridhall/gridhallkeep3.ConvexOffer", spec := "convexOffer", unfollowed := true, recurses := true, apart := false }
def ConvexOfferSaid : Prop := convexOfferRow.holds Try.pinned (OpenSpec.ofChange convexOfferSpec)

/-- ITS FALSE NEIGHBOUR: 'it returns false'. Refute it at one input. -/
def convexOfferWrong : ChangeSpec := { name := "convexOffer", fn := fun _ => fun
  | [d1, d2] => { results := [.lit (.bool false)], args := [d1, d2] }
  | _ => none }
def ConvexOfferWrongFalsely : Prop := convexOfferRow.holds Try.pinned (OpenSpec.ofChange convexOfferWrong)

/-- 'gridhallkeep3.ConvexRing': WHATEVER THE INPUT: true; the input reads as it did. -/
def convexRingSpec : ChangeSpec := { name := "convexRing", fn := fun _ => fun
  | [d1, d2, d3] => { results := [.lit (.bool true)], args := [d1, d2, d3] }
  | _ => none }
def convexRingRow : OpenClaim := { program := "ytcmbckancficcaa", sum := "be17952fe0977db943e28e8c56d820439645a98f72dfb3697410d7ff727dacd8", func := "gridhall/gridhallkeep3.ConvexRing", spec := "convexRing", unfollowed := true, recurses := true, apart := false }
def ConvexRingSaid : Prop := convexRingRow.holds Try.pinned (OpenSpec.ofChange convexRingSpec)

/-- ITS FALSE NEIGHBOUR: 'it returns false'. Refute it at one input. -/
def convexRingWrong : ChangeSpec := { name := "convexRing", fn := fun _ => fun
  | [d1, d2, d3] => { results := [.lit (.bool false)], args := [d1, d2, d3] }
  | _ => none }
def ConvexRingWrongFalsely : Prop := convexRingRow.holds Try.pinned (OpenSpec.ofChange convexRingWrong)

/-- 'gridhallkeep3.StorageValue': WHATEVER THE INPUT: true; the input reads as it did. -/
def storageValueSpec : ChangeSpec := { name := "storageValue", fn := fun _ => fun
  | [d1, d2, d3] => { results := [.lit (.bool true)], args := [d1, d2, d3] }
  | _ => none }
def storageValueRow : OpenClaim := { program := "ytcmbckancficcaa", sum := "be17952fe0977db943e28e8c56d820439645a98f72dfb3697410d7ff727dacd8", func := "gridhall/gridhallkeep3.StorageValue", spec := "storageValue", unfollowed := true, recurses := true, apart := false }
def StorageValueSaid : Prop := storageValueRow.holds Try.pinned (OpenSpec.ofChange storageValueSpec)

/-- ITS FALSE NEIGHBOUR: 'it returns false'. Refute it at one input. -/
def storageValueWrong : ChangeSpec := { name := "storageValue", fn := fun _ => fun
  | [d1, d2, d3] => { results := [.lit (.bool false)], args := [d1, d2, d3] }
  | _ => none }
def StorageValueWrongFalsely : Prop := storageValueRow.holds Try.pinned (OpenSpec.ofChange storageValueWrong)

/-- 'gridhallkeep3.RampKept': WHATEVER THE INPUT: true; the input reads as it did. -/
def rampKeptSpec : ChangeSpec := { name := "rampKept", fn := fun _ => fun
  | [d1, d2, d3, d4, d5, d6] => { results := [.lit (.bool true)], args := [d1, d2, d3, d4, d5, d6] }
  | _ => none }
def rampKeptRow : OpenClaim := { program := "ytcmbckancficcaa", sum := "be17952fe0977db943e28e8c56d820439645a98f72dfb3697410d7ff727dacd8", func := "gridhall/gridhallkeep3.RampKept", spec := "rampKept", unfollowed := true, recurses := true, apart := false }
def RampKeptSaid : Prop := rampKeptRow.holds Try.pinned (OpenSpec.ofChange rampKeptSpec)

/-- ITS FALSE NEIGHBOUR: 'it returns false'. Refute it at one input. -/
def rampKeptWrong : ChangeSpec := { name := "rampKept", fn := fun _ => fun
  | [d1, d2, d3, d4, d5, d6] => { results := [.lit (.bool false)], args := [d1, d2, d3, d4, d5, d6] }
  | _ => none }
def RampKeptWrongFalsely : Prop := rampKeptRow.holds Try.pinned (OpenSpec.ofChange rampKeptWrong)

/-- 'gridhallkeep3.DispatchConvolves': WHATEVER THE INPUT: true; the input reads as it did. -/
def dispatchConvolvesSpec : ChangeSpec := { name := "dispatchConvolves", fn := fun _ => fun
  | [d1, d2] => { results := [.lit (.bool true)], args := [d1, d2] }
  | _ => none }
def dispatchConvolvesRow : OpenClaim := { program := "ytcmbckancficcaa", sum := "be17952fe0977db943e28e8c56d820439645a98f72dfb3697410d7ff727dacd8", func := "gridhall/gridhallkeep3.DispatchConvolves", spec := "dispatchConvolves", unfollowed := true, recurses := true, apart := false }
def DispatchConvolvesSaid : Prop := dispatchConvolvesRow.holds Try.pinned (OpenSpec.ofChange dispatchConvolvesSpec)

/-- ITS FALSE NEIGHBOUR: 'it returns false'. Refute it at one input. -/
def dispatchConvolvesWrong : ChangeSpec := { name := "dispatchConvolves", fn := fun _ => fun
  | [d1, d2] => { results := [.lit (.bool false)], args := [d1, d2] }
  | _ => none }
def DispatchConvolvesWrongFalsely : Prop := dispatchConvolvesRow.holds Try.pinned (OpenSpec.ofChange dispatchConvolvesWrong)

/-- 'gridhallkeep3.StorageLarger': WHATEVER THE INPUT: true; the input reads as it did. -/
def storageLargerSpec : ChangeSpec := { name := "storageLarger", fn := fun _ => fun
  | [d1, d2, d3] => { results := [.lit (.bool true)], args := [d1, d2, d3] }
  | _ => none }
def storageLargerRow : OpenClaim := { program := "ytcmbckancficcaa", sum := "be17952fe0977db943e28e8c56d820439645a98f72dfb3697410d7ff727dacd8", func := "gridhall/gridhallkeep3.StorageLarger", spec := "storageLarger", unfollowed := true, recurses := true, apart := false }
def StorageLargerSaid : Prop := storageLargerRow.holds Try.pinned (OpenSpec.ofChange storageLargerSpec)

/-- ITS FALSE NEIGHBOUR: 'it returns false'. Refute it at one input. -/
def storageLargerWrong : ChangeSpec := { name := "storageLarger", fn := fun _ => fun
  | [d1, d2, d3] => { results := [.lit (.bool false)], args := [d1, d2, d3] }
  | _ => none }
def StorageLargerWrongFalsely : Prop := storageLargerRow.holds Try.pinned (OpenSpec.ofChange storageLargerWrong)

/-- 'gridhallkeep3.RampWithin': WHATEVER THE INPUT: true; the input reads as it did. -/
def rampWithinSpec : ChangeSpec := { name := "rampWithin", fn := fun _ => fun
  | [d1, d2, d3, d4, d5] => { results := [.lit (.bool true)], args := [d1, d2, d3, d4, d5] }
  | _ => none }
def rampWithinRow : OpenClaim := { program := "ytcmbckancficcaa", sum := "be17952fe0977db943e28e8c56d820439645a98f72dfb3697410d7ff727dacd8", func := "gridhall/gridhallkeep3.RampWithin", spec := "rampWithin", unfollowed := true, recurses := true, apart := false }
def RampWithinSaid : Prop := rampWithinRow.holds Try.pinned (OpenSpec.ofChange rampWithinSpec)

/-- ITS FALSE NEIGHBOUR: 'it returns false'. Refute it at one input. -/
def rampWithinWrong : ChangeSpec := { name := "rampWithin", fn := fun _ => fun
  | [d1, d2, d3, d4, d5] => { results := [.lit (.bool false)], args := [d1, d2, d3, d4, d5] }
  | _ => none }
def RampWithinWrongFalsely : Prop := rampWithinRow.holds Try.pinned (OpenSpec.ofChange rampWithinWrong)

/-- 'gridhallkeep3.StorageKept': WHATEVER THE INPUT: true; the input reads as it did. -/
def storageKeptSpec : ChangeSpec := { name := "storageKept", fn := fun _ => fun
  | [d1, d2, d3] => { results := [.lit (.bool true)], args := [d1, d2, d3] }
  | _ => none }
def storageKeptRow : OpenClaim := { program := "ytcmbckancficcaa", sum := "be17952fe0977db943e28e8c56d820439645a98f72dfb3697410d7ff727dacd8", func := "gridhall/gridhallkeep3.StorageKept", spec := "storageKept", unfollowed := true, recurses := true, apart := false }
def StorageKeptSaid : Prop := storageKeptRow.holds Try.pinned (OpenSpec.ofChange storageKeptSpec)

/-- ITS FALSE NEIGHBOUR: 'it returns false'. Refute it at one input. -/
def storageKeptWrong : ChangeSpec := { name := "storageKept", fn := fun _ => fun
  | [d1, d2, d3] => { results := [.lit (.bool false)], args := [d1, d2, d3] }
  | _ => none }
def StorageKeptWrongFalsely : Prop := storageKeptRow.holds Try.pinned (OpenSpec.ofChange storageKeptWrong)

/- THE SECOND FORM. 'bulk': how many values and letters a reading holds, each counted each time it is reached (what is shared counts as often as it is met; a slice's spare places count too). A statement '..UptoSaid' is the law's where the arguments, and the package variables that the reading takes, are together of bulk at most 1048576: NARROWER than '..Said'. Prove '..Said' where nothing that the law and all that it calls make is longer than what came in: it says more and counts as full. Else prove '..UptoSaid'. A law counts once. -/
mutual
def uptoBulk {H : Type} : DataW H → Nat
  | .lit (.string bytes) => bytes.length + 1
  | .lit _ => 1
  | .nil => 1
  | .ptr d => uptoBulk d + 1
  | .slice elems spare => uptoBulkAll elems + uptoBulkAll spare + 1
  | .agg parts => uptoBulkAll parts + 1
  | .iface _ d => uptoBulk d + 1
  | .map entries => uptoBulkEntries entries + 1
  | .held _ => 1
def uptoBulkAll {H : Type} : List (DataW H) → Nat
  | [] => 0
  | d :: r => uptoBulk d + uptoBulkAll r
def uptoBulkEntries {H : Type} : List (Lit × DataW H) → Nat
  | [] => 0
  | x :: r => uptoBulkEntry x + uptoBulkEntries r
def uptoBulkEntry {H : Type} : Lit × DataW H → Nat
  | (.string bytes, d) => bytes.length + uptoBulk d + 1
  | (_, d) => uptoBulk d + 1
 end
def uptoSmall : (H : Type) → List (DataW H) → Bool := fun _ ds => decide (uptoBulkAll ds ≤ 1048576)
def OpenSpec.upto (s : _root_.Go.ChangeSpec) : _root_.Go.OpenSpec := { _root_.Go.OpenSpec.ofChange s with cond := some uptoSmall }

/-- 'gridhallkeep3.HoursSums', WHERE WHAT IT READS IS OF BULK AT MOST 1048576: true; the input reads as it did. -/
def hoursSumsUptoRow : OpenClaim := { program := "ytcmbckancficcaa", sum := "be17952fe0977db943e28e8c56d820439645a98f72dfb3697410d7ff727dacd8", func := "gridhall/gridhallkeep3.HoursSums", spec := "hoursSums", unfollowed := true, recurses := true, apart := false, narrowed := true }
def HoursSumsUptoSaid : Prop := hoursSumsUptoRow.holds Try.pinned (OpenSpec.upto hoursSumsSpec)

/-- 'gridhallkeep3.ConvexParts', WHERE WHAT IT READS IS OF BULK AT MOST 1048576: true; the input reads as it did. -/
def convexPartsUptoRow : OpenClaim := { program := "ytcmbckancficcaa", sum := "be17952fe0977db943e28e8c56d820439645a98f72dfb3697410d7ff727dacd8", func := "gridhall/gridhallkeep3.ConvexParts", spec := "convexParts", unfollowed := true, recurses := true, apart := false, narrowed := true }
def ConvexPartsUptoSaid : Prop := convexPartsUptoRow.holds Try.pinned (OpenSpec.upto convexPartsSpec)

/-- 'gridhallkeep3.ConvexTurns', WHERE WHAT IT READS IS OF BULK AT MOST 1048576: true; the input reads as it did. -/
def convexTurnsUptoRow : OpenClaim := { program := "ytcmbckancficcaa", sum := "be17952fe0977db943e28e8c56d820439645a98f72dfb3697410d7ff727dacd8", func := "gridhall/gridhallkeep3.ConvexTurns", spec := "convexTurns", unfollowed := true, recurses := true, apart := false, narrowed := true }
def ConvexTurnsUptoSaid : Prop := convexTurnsUptoRow.holds Try.pinned (OpenSpec.upto convexTurnsSpec)

/-- 'gridhallkeep3.ConvexFenchel', WHERE WHAT IT READS IS OF BULK AT MOST 1048576: true; the input reads as it did. -/
def convexFenchelUptoRow : OpenClaim := { program := "ytcmbckancficcaa", sum := "be17952fe0977db943e28e8c56d820439645a98f72dfb3697410d7ff727dacd8", func := "gridhall/gridhallkeep3.ConvexFenchel", spec := "convexFenchel", unfollowed := true, recurses := true, apart := false, narrowed := true }
def ConvexFenchelUptoSaid : Prop := convexFenchelUptoRow.holds Try.pinned (OpenSpec.upto convexFenchelSpec)

/-- 'gridhallkeep3.ConvexOffer', WHERE WHAT IT READS IS OF BULK AT MOST 1048576: true; the input reads as it did. -/
def convexOfferUptoRow : OpenClaim := { program := "ytcmbckancficcaa", sum := "be17952fe0977db943e28e8c56d820439645a98f72dfb3697410d7ff727dacd8", func := "gridhall/gridhallkeep3.ConvexOffer", spec := "convexOffer", unfollowed := true, recurses := true, apart := false, narrowed := true }
def ConvexOfferUptoSaid : Prop := convexOfferUptoRow.holds Try.pinned (OpenSpec.upto convexOfferSpec)

/-- 'gridhallkeep3.ConvexRing', WHERE WHAT IT READS IS OF BULK AT MOST 1048576: true; the input reads as it did. -/
def convexRingUptoRow : OpenClaim := { program := "ytcmbckancficcaa", sum := "be17952fe0977db943e28e8c56d820439645a98f72dfb3697410d7ff727dacd8", func := "gridhall/gridhallkeep3.ConvexRing", spec := "convexRing", unfollowed := true, recurses := true, apart := false, narrowed := true }
def ConvexRingUptoSaid : Prop := convexRingUptoRow.holds Try.pinned (OpenSpec.upto convexRingSpec)

/-- 'gridhallkeep3.StorageValue', WHERE WHAT IT READS IS OF BULK AT MOST 1048576: true; the input reads as it did. -/
def storageValueUptoRow : OpenClaim := { program := "ytcmbckancficcaa", sum := "be17952fe0977db943e28e8c56d820439645a98f72dfb3697410d7ff727dacd8", func := "gridhall/gridhallkeep3.StorageValue", spec := "storageValue", unfollowed := true, recurses := true, apart := false, narrowed := true }
def StorageValueUptoSaid : Prop := storageValueUptoRow.holds Try.pinned (OpenSpec.upto storageValueSpec)

/-- 'gridhallkeep3.RampKept', WHERE WHAT IT READS IS OF BULK AT MOST 1048576: true; the input reads as it did. -/
def rampKeptUptoRow : OpenClaim := { program := "ytcmbckancficcaa", sum := "be17952fe0977db943e28e8c56d820439645a98f72dfb3697410d7ff727dacd8", func := "gridhall/gridhallkeep3.RampKept", spec := "rampKept", unfollowed := true, recurses := true, apart := false, narrowed := true }
def RampKeptUptoSaid : Prop := rampKeptUptoRow.holds Try.pinned (OpenSpec.upto rampKeptSpec)

/-- 'gridhallkeep3.DispatchConvolves', WHERE WHAT IT READS IS OF BULK AT MOST 1048576: true; the input reads as it did. -/
def dispatchConvolvesUptoRow : OpenClaim := { program := "ytcmbckancficcaa", sum := "be17952fe0977db943e28e8c56d820439645a98f72dfb3697410d7ff727dacd8", func := "gridhall/gridhallkeep3.DispatchConvolves", spec := "dispatchConvolves", unfollowed := true, recurses := true, apart := false, narrowed := true }
def DispatchConvolvesUptoSaid : Prop := dispatchConvolvesUptoRow.holds Try.pinned (OpenSpec.upto dispatchConvolvesSpec)

/-- 'gridhallkeep3.StorageLarger', WHERE WHAT IT READS IS OF BULK AT MOST 1048576: true; the input reads as it did. -/
def storageLargerUptoRow : OpenClaim := { program := "ytcmbckancficcaa", sum := "be17952fe0977db943e28e8c56d820439645a98f72dfb3697410d7ff727dacd8", func := "gridhall/gridhallkeep3.StorageLarger", spec := "storageLarger", unfollowed := true, recurses := true, apart := false, narrowed := true }
def StorageLargerUptoSaid : Prop := storageLargerUptoRow.holds Try.pinned (OpenSpec.upto storageLargerSpec)

/-- 'gridhallkeep3.RampWithin', WHERE WHAT IT READS IS OF BULK AT MOST 1048576: true; the input reads as it did. -/
def rampWithinUptoRow : OpenClaim := { program := "ytcmbckancficcaa", sum := "be17952fe0977db943e28e8c56d820439645a98f72dfb3697410d7ff727dacd8", func := "gridhall/gridhallkeep3.RampWithin", spec := "rampWithin", unfollowed := true, recurses := true, apart := false, narrowed := true }
def RampWithinUptoSaid : Prop := rampWithinUptoRow.holds Try.pinned (OpenSpec.upto rampWithinSpec)

/-- 'gridhallkeep3.StorageKept', WHERE WHAT IT READS IS OF BULK AT MOST 1048576: true; the input reads as it did. -/
def storageKeptUptoRow : OpenClaim := { program := "ytcmbckancficcaa", sum := "be17952fe0977db943e28e8c56d820439645a98f72dfb3697410d7ff727dacd8", func := "gridhall/gridhallkeep3.StorageKept", spec := "storageKept", unfollowed := true, recurses := true, apart := false, narrowed := true }
def StorageKeptUptoSaid : Prop := storageKeptUptoRow.holds Try.pinned (OpenSpec.upto storageKeptSpec)

end Rows
end Go.Proofs.Ytcmbckancficcaa
