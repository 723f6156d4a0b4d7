/-
  No cell of these rows narrows 'for every input' (looked for: loops, veiled, ifaces, maps, wideKeys, modest, calm, conditions, laid).
  DERIVED. THE GIVEN ROWS OF THIS SEAT. 11 by the template 'for every input the law returns true; each argument reads behind the call as it read before'; 0 by the template 'total and deterministic' (their statements: YtllggbembbfabaaTotals.lean).
  GIVEN WITH THE SEED: the statements are not yours to turn. If you find one false, say at which input.
  Laid BY PROGRAM, IN A SANDBOX (cutbox-rows.mjs): the forced cells as the released guide's own fill.sh prints them over the translation 2b5c89f4c663d900… (all of the seat's roots in one cut). By AI agents, Wed Nov 11 2026. No macro, syntax, notation, axiom, sorry.
-/
import Derived.Test.YtllggbembbfabaaChecked
import GoSem.Claim
import GoSem.ClaimJoined
import GoSem.ClaimMapViews
import Derived.JoinedTies
import Derived.KernelRfl
namespace Go.Proofs.Ytllggbembbfabaa
/- THE CELL 'sum', in the pinned program and in every row, IS THE sha256 OF THE DUMP (.gsa) THAT YtllggbembbfabaaProg.lean LOADS. Nothing in Lean hashes anything: it is a label: what it is worth is what the hold of that sum in a sandbox is worth. -/
noncomputable def Try.pinned : Pinned := { name := "ytllggbembbfabaa", sum := "2b5c89f4c663d9005afd8a684dfa0478ff9bb0ad6f47546545c543532cf860d1", checked := Try.checked }
namespace Rows
def none {H : Type} : Left H := { results := [], args := [] }

/-- 'gridhallkeep3.HoursErrors': WHATEVER THE INPUT: true; the input reads as it did. -/
def hoursErrorsSpec : ChangeSpec := { name := "hoursErrors", fn := fun _ => fun
  | [d1, d2] => { results := [.lit (.bool true)], args := [d1, d2] }
  | _ => none }
def hoursErrorsRow : OpenClaim := { program := "ytllggbembbfabaa", sum := "2b5c89f4c663d9005afd8a684dfa0478ff9bb0ad6f47546545c543532cf860d1", func := "gridhall/gridhallkeep3.HoursErrors", spec := "hoursErrors", apart := false }
def HoursErrorsSaid : Prop := hoursErrorsRow.holds Try.pinned (OpenSpec.ofChange hoursErrorsSpec)

/-- ITS FALSE NEIGHBOUR: 'it returns false'. Refute it at one input. -/
def hoursErrorsWrong : ChangeSpec := { name := "hoursErrors", fn := fun _ => fun
  | [d1, d2] => { results := [.lit (.bool false)], args := [d1, d2] }
  | _ => none }
def HoursErrorsWrongFalsely : Prop := hoursErrorsRow.holds Try.pinned (OpenSpec.ofChange hoursErrorsWrong)

/-- 'gridhallkeep3.ConvexLeast': WHATEVER THE INPUT: true; the input reads as it did. -/
def convexLeastSpec : ChangeSpec := { name := "convexLeast", fn := fun _ => fun
  | [d1, d2] => { results := [.lit (.bool true)], args := [d1, d2] }
  | _ => none }
def convexLeastRow : OpenClaim := { program := "ytllggbembbfabaa", sum := "2b5c89f4c663d9005afd8a684dfa0478ff9bb0ad6f47546545c543532cf860d1", func := "gridhall/gridhallkeep3.ConvexLeast", spec := "convexLeast", apart := false }
def ConvexLeastSaid : Prop := convexLeastRow.holds Try.pinned (OpenSpec.ofChange convexLeastSpec)

/-- ITS FALSE NEIGHBOUR: 'it returns false'. Refute it at one input. -/
def convexLeastWrong : ChangeSpec := { name := "convexLeast", fn := fun _ => fun
  | [d1, d2] => { results := [.lit (.bool false)], args := [d1, d2] }
  | _ => none }
def ConvexLeastWrongFalsely : Prop := convexLeastRow.holds Try.pinned (OpenSpec.ofChange convexLeastWrong)

/-- 'gridhallkeep3.UnitValid': WHATEVER THE INPUT: true; the input reads as it did. -/
def unitValidSpec : ChangeSpec := { name := "unitValid", fn := fun _ => fun
  | [d1, d2, d3] => { results := [.lit (.bool true)], args := [d1, d2, d3] }
  | _ => none }
def unitValidRow : OpenClaim := { program := "ytllggbembbfabaa", sum := "2b5c89f4c663d9005afd8a684dfa0478ff9bb0ad6f47546545c543532cf860d1", func := "gridhall/gridhallkeep3.UnitValid", spec := "unitValid", apart := false }
def UnitValidSaid : Prop := unitValidRow.holds Try.pinned (OpenSpec.ofChange unitValidSpec)

/-- ITS FALSE NEIGHBOUR: 'it returns false'. Refute it at one input. -/
def unitValidWrong : ChangeSpec := { name := "unitValid", fn := fun _ => fun
  | [d1, d2, d3] => { results := [.lit (.bool false)], args := [d1, d2, d3] }
  | _ => none }
def UnitValidWrongFalsely : Prop := unitValidRow.holds Try.pinned (OpenSpec.ofChange unitValidWrong)

/-- 'gridhallkeep3.UnitStays': WHATEVER THE INPUT: true; the input reads as it did. -/
def unitStaysSpec : ChangeSpec := { name := "unitStays", fn := fun _ => fun
  | [d1, d2, d3] => { results := [.lit (.bool true)], args := [d1, d2, d3] }
  | _ => none }
def unitStaysRow : OpenClaim := { program := "ytllggbembbfabaa", sum := "2b5c89f4c663d9005afd8a684dfa0478ff9bb0ad6f47546545c543532cf860d1", func := "gridhall/gridhallkeep3.UnitStays", spec := "unitStays", apart := false }
def UnitStaysSaid : Prop := unitStaysRow.holds Try.pinned (OpenSpec.ofChange unitStaysSpec)

/-- ITS FALSE NEIGHBOUR: 'it returns false'. Refute it at one input. -/
def unitStaysWrong : ChangeSpec := { name := "unitStays", fn := fun _ => fun
  | [d1, d2, d3] => { results := [.lit (.bool false)], args := [d1, d2, d3] }
  | _ => none }
def UnitStaysWrongFalsely : Prop := unitStaysRow.holds Try.pinned (OpenSpec.ofChange unitStaysWrong)

/-- 'gridhallkeep3.UnitStarts': WHATEVER THE INPUT: true; the input reads as it did. -/
def unitStartsSpec : ChangeSpec := { name := "unitStarts", fn := fun _ => fun
  | [d1, d2, d3] => { results := [.lit (.bool true)], args := [d1, d2, d3] }
  | _ => none }
def unitStartsRow : OpenClaim := { program := "ytllggbembbfabaa", sum := "2b5c89f4c663d9005afd8a684dfa0478ff9bb0ad6f47546545c543532cf860d1", func := "gridhall/gridhallkeep3.UnitStarts", spec := "unitStarts", apart := false }
def UnitStartsSaid : Prop := unitStartsRow.holds Try.pinned (OpenSpec.ofChange unitStartsSpec)

/-- ITS FALSE NEIGHBOUR: 'it returns false'. Refute it at one input. -/
def unitStartsWrong : ChangeSpec := { name := "unitStarts", fn := fun _ => fun
  | [d1, d2, d3] => { results := [.lit (.bool false)], args := [d1, d2, d3] }
  | _ => none }
def UnitStartsWrongFalsely : Prop := unitStartsRow.holds Try.pinned (OpenSpec.ofChange unitStartsWrong)

/-- 'gridhallkeep3.UnitParts': WHATEVER THE INPUT: true; the input reads as it did. -/
def unitPartsSpec : ChangeSpec := { name := "unitParts", fn := fun _ => fun
  | [d1, d2, d3, d4] => { results := [.lit (.bool true)], args := [d1, d2, d3, d4] }
  | _ => none }
def unitPartsRow : OpenClaim := { program := "ytllggbembbfabaa", sum := "2b5c89f4c663d9005afd8a684dfa0478ff9bb0ad6f47546545c543532cf860d1", func := "gridhall/gridhallkeep3.UnitParts", spec := "unitParts", apart := false }
def UnitPartsSaid : Prop := unitPartsRow.holds Try.pinned (OpenSpec.ofChange unitPartsSpec)

/-- ITS FALSE NEIGHBOUR: 'it returns false'. Refute it at one input. -/
def unitPartsWrong : ChangeSpec := { name := "unitParts", fn := fun _ => fun
  | [d1, d2, d3, d4] => { results := [.lit (.bool false)], args := [d1, d2, d3, d4] }
  | _ => none }
def UnitPartsWrongFalsely : Prop := unitPartsRow.holds Try.pinned (OpenSpec.ofChange unitPartsWrong)

/-- 'gridhallkeep3.OfferConvex': WHATEVER THE INPUT: true; the input reads as it did. -/
def offerConvexSpec : ChangeSpec := { name := "offerConvex", fn := fun _ => fun
  | [d1, d2] => { results := [.lit (.bool true)], args := [d1, d2] }
  | _ => none }
def offerConvexRow : OpenClaim := { program := "ytllggbembbfabaa", sum := "2b5c89f4c663d9005afd8a684dfa0478ff9bb0ad6f47546545c543532cf860d1", func := "gridhall/gridhallkeep3.OfferConvex", spec := "offerConvex", unfollowed := true, recurses := true, apart := false }
def OfferConvexSaid : Prop := offerConvexRow.holds Try.pinned (OpenSpec.ofChange offerConvexSpec)

/-- ITS FALSE NEIGHBOUR: 'it returns false'. Refute it at one input. -/
def offerConvexWrong : ChangeSpec := { name := "offerConvex", fn := fun _ => fun
  | [d1, d2] => { results := [.lit (.bool false)], args := [d1, d2] }
  | _ => none }
def OfferConvexWrongFalsely : Prop := offerConvexRow.holds Try.pinned (OpenSpec.ofChange offerConvexWrong)

/-- 'gridhallkeep3.OfferBest': WHATEVER THE INPUT: true; the input reads as it did. -/
def offerBestSpec : ChangeSpec := { name := "offerBest", fn := fun _ => fun
  | [d1, d2, d3] => { results := [.lit (.bool true)], args := [d1, d2, d3] }
  | _ => none }
def offerBestRow : OpenClaim := { program := "ytllggbembbfabaa", sum := "2b5c89f4c663d9005afd8a684dfa0478ff9bb0ad6f47546545c543532cf860d1", func := "gridhall/gridhallkeep3.OfferBest", spec := "offerBest", unfollowed := true, recurses := true, apart := false }
def OfferBestSaid : Prop := offerBestRow.holds Try.pinned (OpenSpec.ofChange offerBestSpec)

/-- ITS FALSE NEIGHBOUR: 'it returns false'. Refute it at one input. -/
def offerBestWrong : ChangeSpec := { name := "offerBest", fn := fun _ => fun
  | [d1, d2, d3] => { results := [.lit (.bool false)], args := [d1, d2, d3] }
  | _ => none }
def OfferBestWrongFalsely : Prop := offerBestRow.holds Try.pinned (OpenSpec.ofChange offerBestWrong)

/-- 'gridhallkeep3.OfferRises': WHATEVER THE INPUT: true; the input reads as it did. -/
def offerRisesSpec : ChangeSpec := { name := "offerRises", fn := fun _ => fun
  | [d1, d2, d3] => { results := [.lit (.bool true)], args := [d1, d2, d3] }
  | _ => none }
def offerRisesRow : OpenClaim := { program := "ytllggbembbfabaa", sum := "2b5c89f4c663d9005afd8a684dfa0478ff9bb0ad6f47546545c543532cf860d1", func := "gridhall/gridhallkeep3.OfferRises", spec := "offerRises", unfollowed := true, recurses := true, apart := false }
def OfferRisesSaid : Prop := offerRisesRow.holds Try.pinned (OpenSpec.ofChange offerRisesSpec)

/-- ITS FALSE NEIGHBOUR: 'it returns false'. Refute it at one input. -/
def offerRisesWrong : ChangeSpec := { name := "offerRises", fn := fun _ => fun
  | [d1, d2, d3] => { results := [.lit (.bool false)], args := [d1, d2, d3] }
  | _ => none }
def OfferRisesWrongFalsely : Prop := offerRisesRow.holds Try.pinned (OpenSpec.ofChange offerRisesWrong)

/-- 'gridhallkeep3.DispatchSum': WHATEVER THE INPUT: true; the input reads as it did. -/
def dispatchSumSpec : ChangeSpec := { name := "dispatchSum", fn := fun _ => fun
  | [d1, d2, d3] => { results := [.lit (.bool true)], args := [d1, d2, d3] }
  | _ => none }
def dispatchSumRow : OpenClaim := { program := "ytllggbembbfabaa", sum := "2b5c89f4c663d9005afd8a684dfa0478ff9bb0ad6f47546545c543532cf860d1", func := "gridhall/gridhallkeep3.DispatchSum", spec := "dispatchSum", apart := false }
def DispatchSumSaid : Prop := dispatchSumRow.holds Try.pinned (OpenSpec.ofChange dispatchSumSpec)

/-- ITS FALSE NEIGHBOUR: 'it returns false'. Refute it at one input. -/
def dispatchSumWrong : ChangeSpec := { name := "dispatchSum", fn := fun _ => fun
  | [d1, d2, d3] => { results := [.lit (.bool false)], args := [d1, d2, d3] }
  | _ => none }
def DispatchSumWrongFalsely : Prop := dispatchSumRow.holds Try.pinned (OpenSpec.ofChange dispatchSumWrong)

/-- 'gridhallkeep3.DispatchPrices': WHATEVER THE INPUT: true; the input reads as it did. -/
def dispatchPricesSpec : ChangeSpec := { name := "dispatchPrices", fn := fun _ => fun
  | [d1, d2, d3] => { results := [.lit (.bool true)], args := [d1, d2, d3] }
  | _ => none }
def dispatchPricesRow : OpenClaim := { program := "ytllggbembbfabaa", sum := "2b5c89f4c663d9005afd8a684dfa0478ff9bb0ad6f47546545c543532cf860d1", func := "gridhall/gridhallkeep3.DispatchPrices", spec := "dispatchPrices", unfollowed := true, recurses := true, apart := false }
def DispatchPricesSaid : Prop := dispatchPricesRow.holds Try.pinned (OpenSpec.ofChange dispatchPricesSpec)

/-- ITS FALSE NEIGHBOUR: 'it returns false'. Refute it at one input. -/
def dispatchPricesWrong : ChangeSpec := { name := "dispatchPrices", fn := fun _ => fun
  | [d1, d2, d3] => { results := [.lit (.bool false)], args := [d1, d2, d3] }
  | _ => none }
def DispatchPricesWrongFalsely : Prop := dispatchPricesRow.holds Try.pinned (OpenSpec.ofChange dispatchPricesWrong)

/- THE SECOND FORM. 'bulk': how many values and letters a reading holds, each counted each time it is reached (what is shared counts as often as it is met; a slice's spare places count too). A statement '..UptoSaid' is the law's where the arguments, and the package variables that the reading takes, are together of bulk at most 1048576: NARROWER than '..Said'. Prove '..Said' where nothing that the law and all that it calls make is longer than what came in: it says more and counts as full. Else prove '..UptoSaid'. A law counts once. -/
mutual
def uptoBulk {H : Type} : DataW H → Nat
  | .lit (.string bytes) => bytes.length + 1
  | .lit _ => 1
  | .nil => 1
  | .ptr d => uptoBulk d + 1
  | .slice elems spare => uptoBulkAll elems + uptoBulkAll spare + 1
  | .agg parts => uptoBulkAll parts + 1
  | .iface _ d => uptoBulk d + 1
  | .map entries => uptoBulkEntries entries + 1
  | .held _ => 1
def uptoBulkAll {H : Type} : List (DataW H) → Nat
  | [] => 0
  | d :: r => uptoBulk d + uptoBulkAll r
def uptoBulkEntries {H : Type} : List (Lit × DataW H) → Nat
  | [] => 0
  | x :: r => uptoBulkEntry x + uptoBulkEntries r
def uptoBulkEntry {H : Type} : Lit × DataW H → Nat
  | (.string bytes, d) => bytes.length + uptoBulk d + 1
  | (_, d) => uptoBulk d + 1
 end
def uptoSmall : (H : Type) → List (DataW H) → Bool := fun _ ds => decide (uptoBulkAll ds ≤ 1048576)
def OpenSpec.upto (s : _root_.Go.ChangeSpec) : _root_.Go.OpenSpec := { _root_.Go.OpenSpec.ofChange s with cond := some uptoSmall }

/-- 'gridhallkeep3.HoursErrors', WHERE WHAT IT READS IS OF BULK AT MOST 1048576: true; the input reads as it did. -/
def hoursErrorsUptoRow : OpenClaim := { program := "ytllggbembbfabaa", sum := "2b5c89f4c663d9005afd8a684dfa0478ff9bb0ad6f47546545c543532cf860d1", func := "gridhall/gridhallkeep3.HoursErrors", spec := "hoursErrors", apart := false, narrowed := true }
def HoursErrorsUptoSaid : Prop := hoursErrorsUptoRow.holds Try.pinned (OpenSpec.upto hoursErrorsSpec)

/-- 'gridhallkeep3.ConvexLeast', WHERE WHAT IT READS IS OF BULK AT MOST 1048576: true; the input reads as it did. -/
def convexLeastUptoRow : OpenClaim := { program := "ytllggbembbfabaa", sum := "2b5c89f4c663d9005afd8a684dfa0478ff9bb0ad6f47546545c543532cf860d1", func := "gridhall/gridhallkeep3.ConvexLeast", spec := "convexLeast", apart := false, narrowed := true }
def ConvexLeastUptoSaid : Prop := convexLeastUptoRow.holds Try.pinned (OpenSpec.upto convexLeastSpec)

/-- 'gridhallkeep3.UnitValid', WHERE WHAT IT READS IS OF BULK AT MOST 1048576: true; the input reads as it did. -/
def unitValidUptoRow : OpenClaim := { program := "ytllggbembbfabaa", sum := "2b5c89f4c663d9005afd8a684dfa0478ff9bb0ad6f47546545c543532cf860d1", func := "gridhall/gridhallkeep3.UnitValid", spec := "unitValid", apart := false, narrowed := true }
def UnitValidUptoSaid : Prop := unitValidUptoRow.holds Try.pinned (OpenSpec.upto unitValidSpec)

/-- 'gridhallkeep3.UnitStays', WHERE WHAT IT READS IS OF BULK AT MOST 1048576: true; the input reads as it did. -/
def unitStaysUptoRow : OpenClaim := { program := "ytllggbembbfabaa", sum := "2b5c89f4c663d9005afd8a684dfa0478ff9bb0ad6f47546545c543532cf860d1", func := "gridhall/gridhallkeep3.UnitStays", spec := "unitStays", apart := false, narrowed := true }
def UnitStaysUptoSaid : Prop := unitStaysUptoRow.holds Try.pinned (OpenSpec.upto unitStaysSpec)

/-- 'gridhallkeep3.UnitStarts', WHERE WHAT IT READS IS OF BULK AT MOST 1048576: true; the input reads as it did. -/
def unitStartsUptoRow : OpenClaim := { program := "ytllggbembbfabaa", sum := "2b5c89f4c663d9005afd8a684dfa0478ff9bb0ad6f47546545c543532cf860d1", func := "gridhall/gridhallkeep3.UnitStarts", spec := "unitStarts", apart := false, narrowed := true }
def UnitStartsUptoSaid : Prop := unitStartsUptoRow.holds Try.pinned (OpenSpec.upto unitStartsSpec)

/-- 'gridhallkeep3.UnitParts', WHERE WHAT IT READS IS OF BULK AT MOST 1048576: true; the input reads as it did. -/
def unitPartsUptoRow : OpenClaim := { program := "ytllggbembbfabaa", sum := "2b5c89f4c663d9005afd8a684dfa0478ff9bb0ad6f47546545c543532cf860d1", func := "gridhall/gridhallkeep3.UnitParts", spec := "unitParts", apart := false, narrowed := true }
def UnitPartsUptoSaid : Prop := unitPartsUptoRow.holds Try.pinned (OpenSpec.upto unitPartsSpec)

/-- 'gridhallkeep3.OfferConvex', WHERE WHAT IT READS IS OF BULK AT MOST 1048576: true; the input reads as it did. -/
def offerConvexUptoRow : OpenClaim := { program := "ytllggbembbfabaa", sum := "2b5c89f4c663d9005afd8a684dfa0478ff9bb0ad6f47546545c543532cf860d1", func := "gridhall/gridhallkeep3.OfferConvex", spec := "offerConvex", unfollowed := true, recurses := true, apart := false, narrowed := true }
def OfferConvexUptoSaid : Prop := offerConvexUptoRow.holds Try.pinned (OpenSpec.upto offerConvexSpec)

/-- 'gridhallkeep3.OfferBest', WHERE WHAT IT READS IS OF BULK AT MOST 1048576: true; the input reads as it did. -/
def offerBestUptoRow : OpenClaim := { program := "ytllggbembbfabaa", sum := "2b5c89f4c663d9005afd8a684dfa0478ff9bb0ad6f47546545c543532cf860d1", func := "gridhall/gridhallkeep3.OfferBest", spec := "offerBest", unfollowed := true, recurses := true, apart := false, narrowed := true }
def OfferBestUptoSaid : Prop := offerBestUptoRow.holds Try.pinned (OpenSpec.upto offerBestSpec)

/-- 'gridhallkeep3.OfferRises', WHERE WHAT IT READS IS OF BULK AT MOST 1048576: true; the input reads as it did. -/
def offerRisesUptoRow : OpenClaim := { program := "ytllggbembbfabaa", sum := "2b5c89f4c663d9005afd8a684dfa0478ff9bb0ad6f47546545c543532cf860d1", func := "gridhall/gridhallkeep3.OfferRises", spec := "offerRises", unfollowed := true, recurses := true, apart := false, narrowed := true }
def OfferRisesUptoSaid : Prop := offerRisesUptoRow.holds Try.pinned (OpenSpec.upto offerRisesSpec)

/-- 'gridhallkeep3.DispatchSum', WHERE WHAT IT READS IS OF BULK AT MOST 1048576: true; the input reads as it did. -/
def dispatchSumUptoRow : OpenClaim := { program := "ytllggbembbfabaa", sum := "2b5c89f4c663d9005afd8a684dfa0478ff9bb0ad6f47546545c543532cf860d1", func := "gridhall/gridhallkeep3.DispatchSum", spec := "dispatchSum", apart := false, narrowed := true }
def DispatchSumUptoSaid : Prop := dispatchSumUptoRow.holds Try.pinned (OpenSpec.upto dispatchSumSpec)

/-- 'gridhallkeep3.DispatchPrices', WHERE WHAT IT READS IS OF BULK AT MOST 1048576: true; the input reads as it did. -/
def dispatchPricesUptoRow : OpenClaim := { program := "ytllggbembbfabaa", sum := "2b5c89f4c663d9005afd8a684dfa0478ff9bb0ad6f47546545c543532cf860d1", func := "gridhall/gridhallkeep3.DispatchPrices", spec := "dispatchPrices", unfollowed := true, recurses := true, apart := false, narrowed := true }
def DispatchPricesUptoSaid : Prop := dispatchPricesUptoRow.holds Try.pinned (OpenSpec.upto dispatchPricesSpec)

end Rows
end Go.Proofs.Ytllggbembbfabaa
