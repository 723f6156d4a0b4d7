/-
  NARROWER THAN 'FOR EVERY INPUT', by the rows' own cells (each row's printed sentence says how): PriceParts: laid · SettleKept: laid · SettleShares: laid · RightsPaid: laid · TopEnergy: laid.
  DERIVED. THE GIVEN ROWS OF THIS SEAT. 5 by the template 'for every input the law returns true; each argument reads behind the call as it read before'; 0 by the template 'total and deterministic' (their statements: YtamgbcgfjhpedaaDoorTotals.lean).
  GIVEN WITH THE SEED: the statements are not yours to turn. If you find one false, say at which input.
  Laid BY PROGRAM, IN A SANDBOX (cutbox-rows.mjs): the forced cells as the released guide's own fill.sh prints them over the translation 5fc7609fec0d7e2e… (all of the seat's roots in one cut). By AI agents, Wed Nov 11 2026. No macro, syntax, notation, axiom, sorry.
-/
import Derived.Test.YtamgbcgfjhpedaaDoorChecked
import GoSem.PinnedTables
import GoSem.Claim
import GoSem.ClaimJoined
import GoSem.ClaimMapViews
import Derived.JoinedTies
import Derived.KernelRfl
namespace Go.Proofs.YtamgbcgfjhpedaaDoor
/- THE CELL 'sum', in the pinned program and in every row, IS THE sha256 OF THE DUMP (.gsa) THAT YtamgbcgfjhpedaaDoorProg.lean LOADS. Nothing in Lean hashes anything: it is a label: what it is worth is what the hold of that sum in a sandbox is worth. -/
noncomputable def Tryd.pinned : Pinned := { name := "ytamgbcgfjhpedaadoor", sum := "5fc7609fec0d7e2e3a5344035eb47950b211fea88b1824f926877b0b84302b94", checked := Tryd.checked }
namespace Rows
def none {H : Type} : Left H := { results := [], args := [] }

/- WHAT THE LISTED PACKAGE-LEVEL VARIABLES READ AS WHEN THE CALL BEGINS. Each datum BY PROGRAM (the guide's laid-datum.mjs) off the statement by which the dump's own 'gosem.cut.vars' lays the variable. In a bare row this is a premise. The card (YtamgbcgfjhpedaaDoorCards.lean) ties it to the program's text. -/
def laid_unicode_utf8_acceptRanges {H : Type} : DataW H := .agg [.agg [.lit (.int .u8 128), .lit (.int .u8 191)], .agg [.lit (.int .u8 160), .lit (.int .u8 191)], .agg [.lit (.int .u8 128), .lit (.int .u8 159)], .agg [.lit (.int .u8 144), .lit (.int .u8 191)], .agg [.lit (.int .u8 128), .lit (.int .u8 143)], .agg [.lit (.int .u8 0), .lit (.int .u8 0)], .agg [.lit (.int .u8 0), .lit (.int .u8 0)], .agg [.lit (.int .u8 0), .lit (.int .u8 0)], .agg [.lit (.int .u8 0), .lit (.int .u8 0)], .agg [.lit (.int .u8 0), .lit (.int .u8 0)], .agg [.lit (.int .u8 0), .lit (.int .u8 0)], .agg [.lit (.int .u8 0), .lit (.int .u8 0)], .agg [.lit (.int .u8 0), .lit (.int .u8 0)], .agg [.lit (.int .u8 0), .lit (.int .u8 0)], .agg [.lit (.int .u8 0), .lit (.int .u8 0)], .agg [.lit (.int .u8 0), .lit (.int .u8 0)]]
/-- One of Go's own tables, pinned by name: the form's constant. -/
def laid_unicode_utf8_first : DataW Unit := Go.Pinned.utf8First

/-- 'gridhallkeep3.PriceParts': WHATEVER THE INPUT: true; the input reads as it did. -/
def pricePartsSpec : ChangeSpec := { name := "priceParts", fn := fun _ => fun
  | [d] => { results := [.lit (.bool true)], args := [d] }
  | _ => none }
def pricePartsRow : OpenClaim := { program := "ytamgbcgfjhpedaadoor", sum := "5fc7609fec0d7e2e3a5344035eb47950b211fea88b1824f926877b0b84302b94", func := "gridhall/gridhallkeep3.PriceParts", spec := "priceParts", inPlace := ["internal/bytealg.IndexByteString", "internal/bytealg.IndexString"], unfollowed := true, recurses := true, named := ["internal/bytealg.MaxLen", "unicode/utf8.first", "unicode/utf8.acceptRanges"], apart := false, laid := [("unicode/utf8.acceptRanges", laid_unicode_utf8_acceptRanges), ("unicode/utf8.first", laid_unicode_utf8_first)] }
def PricePartsSaid : Prop := pricePartsRow.holds Tryd.pinned (OpenSpec.ofChange pricePartsSpec)

/-- ITS FALSE NEIGHBOUR: 'it returns false'. Refute it at one input. -/
def pricePartsWrong : ChangeSpec := { name := "priceParts", fn := fun _ => fun
  | [d] => { results := [.lit (.bool false)], args := [d] }
  | _ => none }
def PricePartsWrongFalsely : Prop := pricePartsRow.holds Tryd.pinned (OpenSpec.ofChange pricePartsWrong)

/-- 'gridhallkeep3.SettleKept': WHATEVER THE INPUT: true; the input reads as it did. -/
def settleKeptSpec : ChangeSpec := { name := "settleKept", fn := fun _ => fun
  | [d] => { results := [.lit (.bool true)], args := [d] }
  | _ => none }
def settleKeptRow : OpenClaim := { program := "ytamgbcgfjhpedaadoor", sum := "5fc7609fec0d7e2e3a5344035eb47950b211fea88b1824f926877b0b84302b94", func := "gridhall/gridhallkeep3.SettleKept", spec := "settleKept", inPlace := ["internal/bytealg.IndexByteString", "internal/bytealg.IndexString"], unfollowed := true, recurses := true, named := ["internal/bytealg.MaxLen", "unicode/utf8.first", "unicode/utf8.acceptRanges"], apart := false, laid := [("unicode/utf8.acceptRanges", laid_unicode_utf8_acceptRanges), ("unicode/utf8.first", laid_unicode_utf8_first)] }
def SettleKeptSaid : Prop := settleKeptRow.holds Tryd.pinned (OpenSpec.ofChange settleKeptSpec)

/-- ITS FALSE NEIGHBOUR: 'it returns false'. Refute it at one input. -/
def settleKeptWrong : ChangeSpec := { name := "settleKept", fn := fun _ => fun
  | [d] => { results := [.lit (.bool false)], args := [d] }
  | _ => none }
def SettleKeptWrongFalsely : Prop := settleKeptRow.holds Tryd.pinned (OpenSpec.ofChange settleKeptWrong)

/-- 'gridhallkeep3.SettleShares': WHATEVER THE INPUT: true; the input reads as it did. -/
def settleSharesSpec : ChangeSpec := { name := "settleShares", fn := fun _ => fun
  | [d1, d2] => { results := [.lit (.bool true)], args := [d1, d2] }
  | _ => none }
def settleSharesRow : OpenClaim := { program := "ytamgbcgfjhpedaadoor", sum := "5fc7609fec0d7e2e3a5344035eb47950b211fea88b1824f926877b0b84302b94", func := "gridhall/gridhallkeep3.SettleShares", spec := "settleShares", inPlace := ["internal/bytealg.IndexByteString", "internal/bytealg.IndexString"], unfollowed := true, recurses := true, named := ["internal/bytealg.MaxLen", "unicode/utf8.first", "unicode/utf8.acceptRanges"], apart := false, laid := [("unicode/utf8.acceptRanges", laid_unicode_utf8_acceptRanges), ("unicode/utf8.first", laid_unicode_utf8_first)] }
def SettleSharesSaid : Prop := settleSharesRow.holds Tryd.pinned (OpenSpec.ofChange settleSharesSpec)

/-- ITS FALSE NEIGHBOUR: 'it returns false'. Refute it at one input. -/
def settleSharesWrong : ChangeSpec := { name := "settleShares", fn := fun _ => fun
  | [d1, d2] => { results := [.lit (.bool false)], args := [d1, d2] }
  | _ => none }
def SettleSharesWrongFalsely : Prop := settleSharesRow.holds Tryd.pinned (OpenSpec.ofChange settleSharesWrong)

/-- 'gridhallkeep3.RightsPaid': WHATEVER THE INPUT: true; the input reads as it did. -/
def rightsPaidSpec : ChangeSpec := { name := "rightsPaid", fn := fun _ => fun
  | [d1, d2, d3, d4] => { results := [.lit (.bool true)], args := [d1, d2, d3, d4] }
  | _ => none }
def rightsPaidRow : OpenClaim := { program := "ytamgbcgfjhpedaadoor", sum := "5fc7609fec0d7e2e3a5344035eb47950b211fea88b1824f926877b0b84302b94", func := "gridhall/gridhallkeep3.RightsPaid", spec := "rightsPaid", inPlace := ["internal/bytealg.IndexByteString", "internal/bytealg.IndexString"], unfollowed := true, recurses := true, named := ["internal/bytealg.MaxLen", "unicode/utf8.first", "unicode/utf8.acceptRanges"], apart := false, laid := [("unicode/utf8.acceptRanges", laid_unicode_utf8_acceptRanges), ("unicode/utf8.first", laid_unicode_utf8_first)] }
def RightsPaidSaid : Prop := rightsPaidRow.holds Tryd.pinned (OpenSpec.ofChange rightsPaidSpec)

/-- ITS FALSE NEIGHBOUR: 'it returns false'. Refute it at one input. -/
def rightsPaidWrong : ChangeSpec := { name := "rightsPaid", fn := fun _ => fun
  | [d1, d2, d3, d4] => { results := [.lit (.bool false)], args := [d1, d2, d3, d4] }
  | _ => none }
def RightsPaidWrongFalsely : Prop := rightsPaidRow.holds Tryd.pinned (OpenSpec.ofChange rightsPaidWrong)

/-- 'gridhalltop.TopEnergy': WHATEVER THE INPUT: true; the input reads as it did. -/
def topEnergySpec : ChangeSpec := { name := "topEnergy", fn := fun _ => fun
  | [d1, d2, d3] => { results := [.lit (.bool true)], args := [d1, d2, d3] }
  | _ => none }
def topEnergyRow : OpenClaim := { program := "ytamgbcgfjhpedaadoor", sum := "5fc7609fec0d7e2e3a5344035eb47950b211fea88b1824f926877b0b84302b94", func := "gridhall/gridhalltop.TopEnergy", spec := "topEnergy", inPlace := ["internal/bytealg.IndexByteString", "internal/bytealg.IndexString"], unfollowed := true, recurses := true, named := ["internal/bytealg.MaxLen", "unicode/utf8.first", "unicode/utf8.acceptRanges"], apart := false, laid := [("unicode/utf8.acceptRanges", laid_unicode_utf8_acceptRanges), ("unicode/utf8.first", laid_unicode_utf8_first)] }
def TopEnergySaid : Prop := topEnergyRow.holds Tryd.pinned (OpenSpec.ofChange topEnergySpec)

/-- ITS FALSE NEIGHBOUR: 'it returns false'. Refute it at one input. -/
def topEnergyWrong : ChangeSpec := { name := "topEnergy", fn := fun _ => fun
  | [d1, d2, d3] => { results := [.lit (.bool false)], args := [d1, d2, d3] }
  | _ => none }
def TopEnergyWrongFalsely : Prop := topEnergyRow.holds Tryd.pinned (OpenSpec.ofChange topEnergyWrong)

/- THE SECOND FORM. 'bulk': how many values and letters a reading holds, each counted each time it is reached (what is shared counts as often as it is met; a slice's spare places count too). A statement '..UptoSaid' is the law's where the arguments, and the package variables that the reading takes, are together of bulk at most 1048576: NARROWER than '..Said'. Prove '..Said' where nothing that the law and all that it calls make is longer than what came in: it says more and counts as full. Else prove '..UptoSaid'. A law counts once. -/
mutual
def uptoBulk {H : Type} : DataW H → Nat
  | .lit (.string bytes) => bytes.length + 1
  | .lit _ => 1
  | .nil => 1
  | .ptr d => uptoBulk d + 1
  | .slice elems spare => uptoBulkAll elems + uptoBulkAll spare + 1
  | .agg parts => uptoBulkAll parts + 1
  | .iface _ d => uptoBulk d + 1
  | .map entries => uptoBulkEntries entries + 1
  | .held _ => 1
def uptoBulkAll {H : Type} : List (DataW H) → Nat
  | [] => 0
  | d :: r => uptoBulk d + uptoBulkAll r
def uptoBulkEntries {H : Type} : List (Lit × DataW H) → Nat
  | [] => 0
  | x :: r => uptoBulkEntry x + uptoBulkEntries r
def uptoBulkEntry {H : Type} : Lit × DataW H → Nat
  | (.string bytes, d) => bytes.length + uptoBulk d + 1
  | (_, d) => uptoBulk d + 1
 end
def uptoSmall : (H : Type) → List (DataW H) → Bool := fun _ ds => decide (uptoBulkAll ds ≤ 1048576)
def OpenSpec.upto (s : _root_.Go.ChangeSpec) : _root_.Go.OpenSpec := { _root_.Go.OpenSpec.ofChange s with cond := some uptoSmall }

/-- 'gridhallkeep3.PriceParts', WHERE WHAT IT READS IS OF BULK AT MOST 1048576: true; the input reads as it did. -/
def pricePartsUptoRow : OpenClaim := { program := "ytamgbcgfjhpedaadoor", sum := "5fc7609fec0d7e2e3a5344035eb47950b211fea88b1824f926877b0b84302b94", func := "gridhall/gridhallkeep3.PriceParts", spec := "priceParts", inPlace := ["internal/bytealg.IndexByteString", "internal/bytealg.IndexString"], unfollowed := true, recurses := true, named := ["internal/bytealg.MaxLen", "unicode/utf8.first", "unicode/utf8.acceptRanges"], apart := false, laid := [("unicode/utf8.acceptRanges", laid_unicode_utf8_acceptRanges), ("unicode/utf8.first", laid_unicode_utf8_first)], narrowed := true }
def PricePartsUptoSaid : Prop := pricePartsUptoRow.holds Tryd.pinned (OpenSpec.upto pricePartsSpec)

/-- 'gridhallkeep3.SettleKept', WHERE WHAT IT READS IS OF BULK AT MOST 1048576: true; the input reads as it did. -/
def settleKeptUptoRow : OpenClaim := { program := "ytamgbcgfjhpedaadoor", sum := "5fc7609fec0d7e2e3a5344035eb47950b211fea88b1824f926877b0b84302b94", func := "gridhall/gridhallkeep3.SettleKept", spec := "settleKept", inPlace := ["internal/bytealg.IndexByteString", "internal/bytealg.IndexString"], unfollowed := true, recurses := true, named := ["internal/bytealg.MaxLen", "unicode/utf8.first", "unicode/utf8.acceptRanges"], apart := false, laid := [("unicode/utf8.acceptRanges", laid_unicode_utf8_acceptRanges), ("unicode/utf8.first", laid_unicode_utf8_first)], narrowed := true }
def SettleKeptUptoSaid : Prop := settleKeptUptoRow.holds Tryd.pinned (OpenSpec.upto settleKeptSpec)

/-- 'gridhallkeep3.SettleShares', WHERE WHAT IT READS IS OF BULK AT MOST 1048576: true; the input reads as it did. -/
def settleSharesUptoRow : OpenClaim := { program := "ytamgbcgfjhpedaadoor", sum := "5fc7609fec0d7e2e3a5344035eb47950b211fea88b1824f926877b0b84302b94", func := "gridhall/gridhallkeep3.SettleShares", spec := "settleShares", inPlace := ["internal/bytealg.IndexByteString", "internal/bytealg.IndexString"], unfollowed := true, recurses := true, named := ["internal/bytealg.MaxLen", "unicode/utf8.first", "unicode/utf8.acceptRanges"], apart := false, laid := [("unicode/utf8.acceptRanges", laid_unicode_utf8_acceptRanges), ("unicode/utf8.first", laid_unicode_utf8_first)], narrowed := true }
def SettleSharesUptoSaid : Prop := settleSharesUptoRow.holds Tryd.pinned (OpenSpec.upto settleSharesSpec)

/-- 'gridhallkeep3.RightsPaid', WHERE WHAT IT READS IS OF BULK AT MOST 1048576: true; the input reads as it did. -/
def rightsPaidUptoRow : OpenClaim := { program := "ytamgbcgfjhpedaadoor", sum := "5fc7609fec0d7e2e3a5344035eb47950b211fea88b1824f926877b0b84302b94", func := "gridhall/gridhallkeep3.RightsPaid", spec := "rightsPaid", inPlace := ["internal/bytealg.IndexByteString", "internal/bytealg.IndexString"], unfollowed := true, recurses := true, named := ["internal/bytealg.MaxLen", "unicode/utf8.first", "unicode/utf8.acceptRanges"], apart := false, laid := [("unicode/utf8.acceptRanges", laid_unicode_utf8_acceptRanges), ("unicode/utf8.first", laid_unicode_utf8_first)], narrowed := true }
def RightsPaidUptoSaid : Prop := rightsPaidUptoRow.holds Tryd.pinned (OpenSpec.upto rightsPaidSpec)

/-- 'gridhalltop.TopEnergy', WHERE WHAT IT READS IS OF BULK AT MOST 1048576: true; the input reads as it did. -/
def topEnergyUptoRow : OpenClaim := { program := "ytamgbcgfjhpedaadoor", sum := "5fc7609fec0d7e2e3a5344035eb47950b211fea88b1824f926877b0b84302b94", func := "gridhall/gridhalltop.TopEnergy", spec := "topEnergy", inPlace := ["internal/bytealg.IndexByteString", "internal/bytealg.IndexString"], unfollowed := true, recurses := true, named := ["internal/bytealg.MaxLen", "unicode/utf8.first", "unicode/utf8.acceptRanges"], apart := false, laid := [("unicode/utf8.acceptRanges", laid_unicode_utf8_acceptRanges), ("unicode/utf8.first", laid_unicode_utf8_first)], narrowed := true }
def TopEnergyUptoSaid : Prop := topEnergyUptoRow.holds Tryd.pinned (OpenSpec.upto topEnergySpec)

end Rows
end Go.Proofs.YtamgbcgfjhpedaaDoor
