/-
  NARROWER THAN 'FOR EVERY INPUT', by the rows' own cells (each row's printed sentence says how): NetdispatchFlows: laid · RightsFit: laid · NetdispatchProved: laid · PriceRents: laid · PriceRefused: laid · NetdispatchDear: laid · SettleBills: laid · TopMarket: laid · TopDispatch: laid · TopRights: laid · TopMoney: laid.
  DERIVED. THE GIVEN ROWS OF THIS SEAT. 11 by the template 'for every input the law returns true; each argument reads behind the call as it read before'; 0 by the template 'total and deterministic' (their statements: YtfobeapcmgjhbaaGreatDoorTotals.lean).
  GIVEN WITH THE SEED: the statements are not yours to turn. If you find one false, say at which input.
  Laid BY PROGRAM, IN A SANDBOX (cutbox-rows.mjs): the forced cells as the released guide's own fill.sh prints them over the translation 07e20329b7a5dcfc… (all of the seat's roots in one cut). By AI agents, Wed Nov 11 2026. No macro, syntax, notation, axiom, sorry.
-/
import Derived.Test.YtfobeapcmgjhbaaGreatDoorChecked
import GoSem.PinnedTables
import GoSem.Claim
import GoSem.ClaimJoined
import GoSem.ClaimMapViews
import Derived.JoinedTies
import Derived.KernelRfl
namespace Go.Proofs.YtfobeapcmgjhbaaGreatDoor
/- THE CELL 'sum', in the pinned program and in every row, IS THE sha256 OF THE DUMP (.gsa) THAT YtfobeapcmgjhbaaGreatDoorProg.lean LOADS. Nothing in Lean hashes anything: it is a label: what it is worth is what the hold of that sum in a sandbox is worth. -/
noncomputable def Tryz.pinned : Pinned := { name := "ytfobeapcmgjhbaagreatdoor", sum := "07e20329b7a5dcfc5c2d2525083265f5d8f7c8083bef4e4b58935379c1ef1667", checked := Tryz.checked }
namespace Rows
def none {H : Type} : Left H := { results := [], args := [] }

/- WHAT THE LISTED PACKAGE-LEVEL VARIABLES READ AS WHEN THE CALL BEGINS. Each datum BY PROGRAM (the guide's laid-datum.mjs) off the statement by which the dump's own 'gosem.cut.vars' lays the variable. In a bare row this is a premise. The card (YtfobeapcmgjhbaaGreatDoorCards.lean) ties it to the program's text. -/
def laid_unicode_utf8_acceptRanges {H : Type} : DataW H := .agg [.agg [.lit (.int .u8 128), .lit (.int .u8 191)], .agg [.lit (.int .u8 160), .lit (.int .u8 191)], .agg [.lit (.int .u8 128), .lit (.int .u8 159)], .agg [.lit (.int .u8 144), .lit (.int .u8 191)], .agg [.lit (.int .u8 128), .lit (.int .u8 143)], .agg [.lit (.int .u8 0), .lit (.int .u8 0)], .agg [.lit (.int .u8 0), .lit (.int .u8 0)], .agg [.lit (.int .u8 0), .lit (.int .u8 0)], .agg [.lit (.int .u8 0), .lit (.int .u8 0)], .agg [.lit (.int .u8 0), .lit (.int .u8 0)], .agg [.lit (.int .u8 0), .lit (.int .u8 0)], .agg [.lit (.int .u8 0), .lit (.int .u8 0)], .agg [.lit (.int .u8 0), .lit (.int .u8 0)], .agg [.lit (.int .u8 0), .lit (.int .u8 0)], .agg [.lit (.int .u8 0), .lit (.int .u8 0)], .agg [.lit (.int .u8 0), .lit (.int .u8 0)]]
/-- One of Go's own tables, pinned by name: the form's constant. -/
def laid_unicode_utf8_first : DataW Unit := Go.Pinned.utf8First

/-- 'gridhallkeep3.NetdispatchFlows': WHATEVER THE INPUT: true; the input reads as it did. -/
def netdispatchFlowsSpec : ChangeSpec := { name := "netdispatchFlows", fn := fun _ => fun
  | [d1, d2] => { results := [.lit (.bool true)], args := [d1, d2] }
  | _ => none }
def netdispatchFlowsRow : OpenClaim := { program := "ytfobeapcmgjhbaagreatdoor", sum := "07e20329b7a5dcfc5c2d2525083265f5d8f7c8083bef4e4b58935379c1ef1667", func := "gridhall/gridhallkeep3.NetdispatchFlows", spec := "netdispatchFlows", inPlace := ["internal/bytealg.IndexByteString", "internal/bytealg.IndexString"], unfollowed := true, recurses := true, named := ["internal/bytealg.MaxLen", "unicode/utf8.first", "unicode/utf8.acceptRanges"], apart := false, laid := [("unicode/utf8.acceptRanges", laid_unicode_utf8_acceptRanges), ("unicode/utf8.first", laid_unicode_utf8_first)] }
def NetdispatchFlowsSaid : Prop := netdispatchFlowsRow.holds Tryz.pinned (OpenSpec.ofChange netdispatchFlowsSpec)

/-- ITS FALSE NEIGHBOUR: 'it returns false'. Refute it at one input. -/
def netdispatchFlowsWrong : ChangeSpec := { name := "netdispatchFlows", fn := fun _ => fun
  | [d1, d2] => { results := [.lit (.bool false)], args := [d1, d2] }
  | _ => none }
def NetdispatchFlowsWrongFalsely : Prop := netdispatchFlowsRow.holds Tryz.pinned (OpenSpec.ofChange netdispatchFlowsWrong)

/-- 'gridhallkeep3.RightsFit': WHATEVER THE INPUT: true; the input reads as it did. -/
def rightsFitSpec : ChangeSpec := { name := "rightsFit", fn := fun _ => fun
  | [d1, d2] => { results := [.lit (.bool true)], args := [d1, d2] }
  | _ => none }
def rightsFitRow : OpenClaim := { program := "ytfobeapcmgjhbaagreatdoor", sum := "07e20329b7a5dcfc5c2d2525083265f5d8f7c8083bef4e4b58935379c1ef1667", func := "gridhall/gridhallkeep3.RightsFit", spec := "rightsFit", inPlace := ["internal/bytealg.IndexByteString", "internal/bytealg.IndexString"], unfollowed := true, recurses := true, named := ["unicode/utf8.first", "unicode/utf8.acceptRanges", "internal/bytealg.MaxLen"], apart := false, laid := [("unicode/utf8.acceptRanges", laid_unicode_utf8_acceptRanges), ("unicode/utf8.first", laid_unicode_utf8_first)] }
def RightsFitSaid : Prop := rightsFitRow.holds Tryz.pinned (OpenSpec.ofChange rightsFitSpec)

/-- ITS FALSE NEIGHBOUR: 'it returns false'. Refute it at one input. -/
def rightsFitWrong : ChangeSpec := { name := "rightsFit", fn := fun _ => fun
  | [d1, d2] => { results := [.lit (.bool false)], args := [d1, d2] }
  | _ => none }
def RightsFitWrongFalsely : Prop := rightsFitRow.holds Tryz.pinned (OpenSpec.ofChange rightsFitWrong)

/-- 'gridhallkeep3.NetdispatchProved': WHATEVER THE INPUT: true; the input reads as it did. -/
def netdispatchProvedSpec : ChangeSpec := { name := "netdispatchProved", fn := fun _ => fun
  | [d1, d2] => { results := [.lit (.bool true)], args := [d1, d2] }
  | _ => none }
def netdispatchProvedRow : OpenClaim := { program := "ytfobeapcmgjhbaagreatdoor", sum := "07e20329b7a5dcfc5c2d2525083265f5d8f7c8083bef4e4b58935379c1ef1667", func := "gridhall/gridhallkeep3.NetdispatchProved", spec := "netdispatchProved", inPlace := ["internal/bytealg.IndexByteString", "internal/bytealg.IndexString"], unfollowed := true, recurses := true, named := ["unicode/utf8.first", "unicode/utf8.acceptRanges", "internal/bytealg.MaxLen"], apart := false, laid := [("unicode/utf8.acceptRanges", laid_unicode_utf8_acceptRanges), ("unicode/utf8.first", laid_unicode_utf8_first)] }
def NetdispatchProvedSaid : Prop := netdispatchProvedRow.holds Tryz.pinned (OpenSpec.ofChange netdispatchProvedSpec)

/-- ITS FALSE NEIGHBOUR: 'it returns false'. Refute it at one input. -/
def netdispatchProvedWrong : ChangeSpec := { name := "netdispatchProved", fn := fun _ => fun
  | [d1, d2] => { results := [.lit (.bool false)], args := [d1, d2] }
  | _ => none }
def NetdispatchProvedWrongFalsely : Prop := netdispatchProvedRow.holds Tryz.pinned (OpenSpec.ofChange netdispatchProvedWrong)

/-- 'gridhallkeep3.PriceRents': WHATEVER THE INPUT: true; the input reads as it did. -/
def priceRentsSpec : ChangeSpec := { name := "priceRents", fn := fun _ => fun
  | [d1, d2] => { results := [.lit (.bool true)], args := [d1, d2] }
  | _ => none }
def priceRentsRow : OpenClaim := { program := "ytfobeapcmgjhbaagreatdoor", sum := "07e20329b7a5dcfc5c2d2525083265f5d8f7c8083bef4e4b58935379c1ef1667", func := "gridhall/gridhallkeep3.PriceRents", spec := "priceRents", inPlace := ["internal/bytealg.IndexByteString", "internal/bytealg.IndexString"], unfollowed := true, recurses := true, named := ["unicode/utf8.first", "unicode/utf8.acceptRanges", "internal/bytealg.MaxLen"], apart := false, laid := [("unicode/utf8.acceptRanges", laid_unicode_utf8_acceptRanges), ("unicode/utf8.first", laid_unicode_utf8_first)] }
def PriceRentsSaid : Prop := priceRentsRow.holds Tryz.pinned (OpenSpec.ofChange priceRentsSpec)

/-- ITS FALSE NEIGHBOUR: 'it returns false'. Refute it at one input. -/
def priceRentsWrong : ChangeSpec := { name := "priceRents", fn := fun _ => fun
  | [d1, d2] => { results := [.lit (.bool false)], args := [d1, d2] }
  | _ => none }
def PriceRentsWrongFalsely : Prop := priceRentsRow.holds Tryz.pinned (OpenSpec.ofChange priceRentsWrong)

/-- 'gridhallkeep3.PriceRefused': WHATEVER THE INPUT: true; the input reads as it did. -/
def priceRefusedSpec : ChangeSpec := { name := "priceRefused", fn := fun _ => fun
  | [d1, d2, d3] => { results := [.lit (.bool true)], args := [d1, d2, d3] }
  | _ => none }
def priceRefusedRow : OpenClaim := { program := "ytfobeapcmgjhbaagreatdoor", sum := "07e20329b7a5dcfc5c2d2525083265f5d8f7c8083bef4e4b58935379c1ef1667", func := "gridhall/gridhallkeep3.PriceRefused", spec := "priceRefused", inPlace := ["internal/bytealg.IndexByteString", "internal/bytealg.IndexString"], unfollowed := true, recurses := true, named := ["unicode/utf8.first", "unicode/utf8.acceptRanges", "internal/bytealg.MaxLen"], apart := false, laid := [("unicode/utf8.acceptRanges", laid_unicode_utf8_acceptRanges), ("unicode/utf8.first", laid_unicode_utf8_first)] }
def PriceRefusedSaid : Prop := priceRefusedRow.holds Tryz.pinned (OpenSpec.ofChange priceRefusedSpec)

/-- ITS FALSE NEIGHBOUR: 'it returns false'. Refute it at one input. -/
def priceRefusedWrong : ChangeSpec := { name := "priceRefused", fn := fun _ => fun
  | [d1, d2, d3] => { results := [.lit (.bool false)], args := [d1, d2, d3] }
  | _ => none }
def PriceRefusedWrongFalsely : Prop := priceRefusedRow.holds Tryz.pinned (OpenSpec.ofChange priceRefusedWrong)

/-- 'gridhallkeep3.NetdispatchDear': WHATEVER THE INPUT: true; the input reads as it did. -/
def netdispatchDearSpec : ChangeSpec := { name := "netdispatchDear", fn := fun _ => fun
  | [d1, d2] => { results := [.lit (.bool true)], args := [d1, d2] }
  | _ => none }
def netdispatchDearRow : OpenClaim := { program := "ytfobeapcmgjhbaagreatdoor", sum := "07e20329b7a5dcfc5c2d2525083265f5d8f7c8083bef4e4b58935379c1ef1667", func := "gridhall/gridhallkeep3.NetdispatchDear", spec := "netdispatchDear", inPlace := ["internal/bytealg.IndexByteString", "internal/bytealg.IndexString"], unfollowed := true, recurses := true, named := ["unicode/utf8.first", "unicode/utf8.acceptRanges", "internal/bytealg.MaxLen"], apart := false, laid := [("unicode/utf8.acceptRanges", laid_unicode_utf8_acceptRanges), ("unicode/utf8.first", laid_unicode_utf8_first)] }
def NetdispatchDearSaid : Prop := netdispatchDearRow.holds Tryz.pinned (OpenSpec.ofChange netdispatchDearSpec)

/-- ITS FALSE NEIGHBOUR: 'it returns false'. Refute it at one input. -/
def netdispatchDearWrong : ChangeSpec := { name := "netdispatchDear", fn := fun _ => fun
  | [d1, d2] => { results := [.lit (.bool false)], args := [d1, d2] }
  | _ => none }
def NetdispatchDearWrongFalsely : Prop := netdispatchDearRow.holds Tryz.pinned (OpenSpec.ofChange netdispatchDearWrong)

/-- 'gridhallkeep3.SettleBills': WHATEVER THE INPUT: true; the input reads as it did. -/
def settleBillsSpec : ChangeSpec := { name := "settleBills", fn := fun _ => fun
  | [d1, d2] => { results := [.lit (.bool true)], args := [d1, d2] }
  | _ => none }
def settleBillsRow : OpenClaim := { program := "ytfobeapcmgjhbaagreatdoor", sum := "07e20329b7a5dcfc5c2d2525083265f5d8f7c8083bef4e4b58935379c1ef1667", func := "gridhall/gridhallkeep3.SettleBills", spec := "settleBills", inPlace := ["internal/bytealg.IndexByteString", "internal/bytealg.IndexString"], unfollowed := true, recurses := true, named := ["unicode/utf8.first", "unicode/utf8.acceptRanges", "internal/bytealg.MaxLen"], apart := false, laid := [("unicode/utf8.acceptRanges", laid_unicode_utf8_acceptRanges), ("unicode/utf8.first", laid_unicode_utf8_first)] }
def SettleBillsSaid : Prop := settleBillsRow.holds Tryz.pinned (OpenSpec.ofChange settleBillsSpec)

/-- ITS FALSE NEIGHBOUR: 'it returns false'. Refute it at one input. -/
def settleBillsWrong : ChangeSpec := { name := "settleBills", fn := fun _ => fun
  | [d1, d2] => { results := [.lit (.bool false)], args := [d1, d2] }
  | _ => none }
def SettleBillsWrongFalsely : Prop := settleBillsRow.holds Tryz.pinned (OpenSpec.ofChange settleBillsWrong)

/-- 'gridhalltop.TopMarket': WHATEVER THE INPUT: true; the input reads as it did. -/
def topMarketSpec : ChangeSpec := { name := "topMarket", fn := fun _ => fun
  | [d1, d2, d3, d4] => { results := [.lit (.bool true)], args := [d1, d2, d3, d4] }
  | _ => none }
def topMarketRow : OpenClaim := { program := "ytfobeapcmgjhbaagreatdoor", sum := "07e20329b7a5dcfc5c2d2525083265f5d8f7c8083bef4e4b58935379c1ef1667", func := "gridhall/gridhalltop.TopMarket", spec := "topMarket", inPlace := ["internal/bytealg.IndexByteString", "internal/bytealg.IndexString"], unfollowed := true, recurses := true, named := ["unicode/utf8.first", "unicode/utf8.acceptRanges", "internal/bytealg.MaxLen"], apart := false, laid := [("unicode/utf8.acceptRanges", laid_unicode_utf8_acceptRanges), ("unicode/utf8.first", laid_unicode_utf8_first)] }
def TopMarketSaid : Prop := topMarketRow.holds Tryz.pinned (OpenSpec.ofChange topMarketSpec)

/-- ITS FALSE NEIGHBOUR: 'it returns false'. Refute it at one input. -/
def topMarketWrong : ChangeSpec := { name := "topMarket", fn := fun _ => fun
  | [d1, d2, d3, d4] => { results := [.lit (.bool false)], args := [d1, d2, d3, d4] }
  | _ => none }
def TopMarketWrongFalsely : Prop := topMarketRow.holds Tryz.pinned (OpenSpec.ofChange topMarketWrong)

/-- 'gridhalltop.TopDispatch': WHATEVER THE INPUT: true; the input reads as it did. -/
def topDispatchSpec : ChangeSpec := { name := "topDispatch", fn := fun _ => fun
  | [d1, d2, d3] => { results := [.lit (.bool true)], args := [d1, d2, d3] }
  | _ => none }
def topDispatchRow : OpenClaim := { program := "ytfobeapcmgjhbaagreatdoor", sum := "07e20329b7a5dcfc5c2d2525083265f5d8f7c8083bef4e4b58935379c1ef1667", func := "gridhall/gridhalltop.TopDispatch", spec := "topDispatch", inPlace := ["internal/bytealg.IndexByteString", "internal/bytealg.IndexString"], unfollowed := true, recurses := true, named := ["internal/bytealg.MaxLen", "unicode/utf8.first", "unicode/utf8.acceptRanges"], apart := false, laid := [("unicode/utf8.acceptRanges", laid_unicode_utf8_acceptRanges), ("unicode/utf8.first", laid_unicode_utf8_first)] }
def TopDispatchSaid : Prop := topDispatchRow.holds Tryz.pinned (OpenSpec.ofChange topDispatchSpec)

/-- ITS FALSE NEIGHBOUR: 'it returns false'. Refute it at one input. -/
def topDispatchWrong : ChangeSpec := { name := "topDispatch", fn := fun _ => fun
  | [d1, d2, d3] => { results := [.lit (.bool false)], args := [d1, d2, d3] }
  | _ => none }
def TopDispatchWrongFalsely : Prop := topDispatchRow.holds Tryz.pinned (OpenSpec.ofChange topDispatchWrong)

/-- 'gridhalltop.TopRights': WHATEVER THE INPUT: true; the input reads as it did. -/
def topRightsSpec : ChangeSpec := { name := "topRights", fn := fun _ => fun
  | [d1, d2, d3] => { results := [.lit (.bool true)], args := [d1, d2, d3] }
  | _ => none }
def topRightsRow : OpenClaim := { program := "ytfobeapcmgjhbaagreatdoor", sum := "07e20329b7a5dcfc5c2d2525083265f5d8f7c8083bef4e4b58935379c1ef1667", func := "gridhall/gridhalltop.TopRights", spec := "topRights", inPlace := ["internal/bytealg.IndexByteString", "internal/bytealg.IndexString"], unfollowed := true, recurses := true, named := ["unicode/utf8.first", "unicode/utf8.acceptRanges", "internal/bytealg.MaxLen"], apart := false, laid := [("unicode/utf8.acceptRanges", laid_unicode_utf8_acceptRanges), ("unicode/utf8.first", laid_unicode_utf8_first)] }
def TopRightsSaid : Prop := topRightsRow.holds Tryz.pinned (OpenSpec.ofChange topRightsSpec)

/-- ITS FALSE NEIGHBOUR: 'it returns false'. Refute it at one input. -/
def topRightsWrong : ChangeSpec := { name := "topRights", fn := fun _ => fun
  | [d1, d2, d3] => { results := [.lit (.bool false)], args := [d1, d2, d3] }
  | _ => none }
def TopRightsWrongFalsely : Prop := topRightsRow.holds Tryz.pinned (OpenSpec.ofChange topRightsWrong)

/-- 'gridhalltop.TopMoney': WHATEVER THE INPUT: true; the input reads as it did. -/
def topMoneySpec : ChangeSpec := { name := "topMoney", fn := fun _ => fun
  | [d1, d2] => { results := [.lit (.bool true)], args := [d1, d2] }
  | _ => none }
def topMoneyRow : OpenClaim := { program := "ytfobeapcmgjhbaagreatdoor", sum := "07e20329b7a5dcfc5c2d2525083265f5d8f7c8083bef4e4b58935379c1ef1667", func := "gridhall/gridhalltop.TopMoney", spec := "topMoney", inPlace := ["internal/bytealg.IndexByteString", "internal/bytealg.IndexString"], unfollowed := true, recurses := true, named := ["unicode/utf8.first", "unicode/utf8.acceptRanges", "internal/bytealg.MaxLen"], apart := false, laid := [("unicode/utf8.acceptRanges", laid_unicode_utf8_acceptRanges), ("unicode/utf8.first", laid_unicode_utf8_first)] }
def TopMoneySaid : Prop := topMoneyRow.holds Tryz.pinned (OpenSpec.ofChange topMoneySpec)

/-- ITS FALSE NEIGHBOUR: 'it returns false'. Refute it at one input. -/
def topMoneyWrong : ChangeSpec := { name := "topMoney", fn := fun _ => fun
  | [d1, d2] => { results := [.lit (.bool false)], args := [d1, d2] }
  | _ => none }
def TopMoneyWrongFalsely : Prop := topMoneyRow.holds Tryz.pinned (OpenSpec.ofChange topMoneyWrong)

/- THE SECOND FORM. 'bulk': how many values and letters a reading holds, each counted each time it is reached (what is shared counts as often as it is met; a slice's spare places count too). A statement '..UptoSaid' is the law's where the arguments, and the package variables that the reading takes, are together of bulk at most 1048576: NARROWER than '..Said'. Prove '..Said' where nothing that the law and all that it calls make is longer than what came in: it says more and counts as full. Else prove '..UptoSaid'. A law counts once. -/
mutual
def uptoBulk {H : Type} : DataW H → Nat
  | .lit (.string bytes) => bytes.length + 1
  | .lit _ => 1
  | .nil => 1
  | .ptr d => uptoBulk d + 1
  | .slice elems spare => uptoBulkAll elems + uptoBulkAll spare + 1
  | .agg parts => uptoBulkAll parts + 1
  | .iface _ d => uptoBulk d + 1
  | .map entries => uptoBulkEntries entries + 1
  | .held _ => 1
def uptoBulkAll {H : Type} : List (DataW H) → Nat
  | [] => 0
  | d :: r => uptoBulk d + uptoBulkAll r
def uptoBulkEntries {H : Type} : List (Lit × DataW H) → Nat
  | [] => 0
  | x :: r => uptoBulkEntry x + uptoBulkEntries r
def uptoBulkEntry {H : Type} : Lit × DataW H → Nat
  | (.string bytes, d) => bytes.length + uptoBulk d + 1
  | (_, d) => uptoBulk d + 1
 end
def uptoSmall : (H : Type) → List (DataW H) → Bool := fun _ ds => decide (uptoBulkAll ds ≤ 1048576)
def OpenSpec.upto (s : _root_.Go.ChangeSpec) : _root_.Go.OpenSpec := { _root_.Go.OpenSpec.ofChange s with cond := some uptoSmall }

/-- 'gridhallkeep3.NetdispatchFlows', WHERE WHAT IT READS IS OF BULK AT MOST 1048576: true; the input reads as it did. -/
def netdispatchFlowsUptoRow : OpenClaim := { program := "ytfobeapcmgjhbaagreatdoor", sum := "07e20329b7a5dcfc5c2d2525083265f5d8f7c8083bef4e4b58935379c1ef1667", func := "gridhall/gridhallkeep3.NetdispatchFlows", spec := "netdispatchFlows", inPlace := ["internal/bytealg.IndexByteString", "internal/bytealg.IndexString"], unfollowed := true, recurses := true, named := ["internal/bytealg.MaxLen", "unicode/utf8.first", "unicode/utf8.acceptRanges"], apart := false, laid := [("unicode/utf8.acceptRanges", laid_unicode_utf8_acceptRanges), ("unicode/utf8.first", laid_unicode_utf8_first)], narrowed := true }
def NetdispatchFlowsUptoSaid : Prop := netdispatchFlowsUptoRow.holds Tryz.pinned (OpenSpec.upto netdispatchFlowsSpec)

/-- 'gridhallkeep3.RightsFit', WHERE WHAT IT READS IS OF BULK AT MOST 1048576: true; the input reads as it did. -/
def rightsFitUptoRow : OpenClaim := { program := "ytfobeapcmgjhbaagreatdoor", sum := "07e20329b7a5dcfc5c2d2525083265f5d8f7c8083bef4e4b58935379c1ef1667", func := "gridhall/gridhallkeep3.RightsFit", spec := "rightsFit", inPlace := ["internal/bytealg.IndexByteString", "internal/bytealg.IndexString"], unfollowed := true, recurses := true, named := ["unicode/utf8.first", "unicode/utf8.acceptRanges", "internal/bytealg.MaxLen"], apart := false, laid := [("unicode/utf8.acceptRanges", laid_unicode_utf8_acceptRanges), ("unicode/utf8.first", laid_unicode_utf8_first)], narrowed := true }
def RightsFitUptoSaid : Prop := rightsFitUptoRow.holds Tryz.pinned (OpenSpec.upto rightsFitSpec)

/-- 'gridhallkeep3.NetdispatchProved', WHERE WHAT IT READS IS OF BULK AT MOST 1048576: true; the input reads as it did. -/
def netdispatchProvedUptoRow : OpenClaim := { program := "ytfobeapcmgjhbaagreatdoor", sum := "07e20329b7a5dcfc5c2d2525083265f5d8f7c8083bef4e4b58935379c1ef1667", func := "gridhall/gridhallkeep3.NetdispatchProved", spec := "netdispatchProved", inPlace := ["internal/bytealg.IndexByteString", "internal/bytealg.IndexString"], unfollowed := true, recurses := true, named := ["unicode/utf8.first", "unicode/utf8.acceptRanges", "internal/bytealg.MaxLen"], apart := false, laid := [("unicode/utf8.acceptRanges", laid_unicode_utf8_acceptRanges), ("unicode/utf8.first", laid_unicode_utf8_first)], narrowed := true }
def NetdispatchProvedUptoSaid : Prop := netdispatchProvedUptoRow.holds Tryz.pinned (OpenSpec.upto netdispatchProvedSpec)

/-- 'gridhallkeep3.PriceRents', WHERE WHAT IT READS IS OF BULK AT MOST 1048576: true; the input reads as it did. -/
def priceRentsUptoRow : OpenClaim := { program := "ytfobeapcmgjhbaagreatdoor", sum := "07e20329b7a5dcfc5c2d2525083265f5d8f7c8083bef4e4b58935379c1ef1667", func := "gridhall/gridhallkeep3.PriceRents", spec := "priceRents", inPlace := ["internal/bytealg.IndexByteString", "internal/bytealg.IndexString"], unfollowed := true, recurses := true, named := ["unicode/utf8.first", "unicode/utf8.acceptRanges", "internal/bytealg.MaxLen"], apart := false, laid := [("unicode/utf8.acceptRanges", laid_unicode_utf8_acceptRanges), ("unicode/utf8.first", laid_unicode_utf8_first)], narrowed := true }
def PriceRentsUptoSaid : Prop := priceRentsUptoRow.holds Tryz.pinned (OpenSpec.upto priceRentsSpec)

/-- 'gridhallkeep3.PriceRefused', WHERE WHAT IT READS IS OF BULK AT MOST 1048576: true; the input reads as it did. -/
def priceRefusedUptoRow : OpenClaim := { program := "ytfobeapcmgjhbaagreatdoor", sum := "07e20329b7a5dcfc5c2d2525083265f5d8f7c8083bef4e4b58935379c1ef1667", func := "gridhall/gridhallkeep3.PriceRefused", spec := "priceRefused", inPlace := ["internal/bytealg.IndexByteString", "internal/bytealg.IndexString"], unfollowed := true, recurses := true, named := ["unicode/utf8.first", "unicode/utf8.acceptRanges", "internal/bytealg.MaxLen"], apart := false, laid := [("unicode/utf8.acceptRanges", laid_unicode_utf8_acceptRanges), ("unicode/utf8.first", laid_unicode_utf8_first)], narrowed := true }
def PriceRefusedUptoSaid : Prop := priceRefusedUptoRow.holds Tryz.pinned (OpenSpec.upto priceRefusedSpec)

/-- 'gridhallkeep3.NetdispatchDear', WHERE WHAT IT READS IS OF BULK AT MOST 1048576: true; the input reads as it did. -/
def netdispatchDearUptoRow : OpenClaim := { program := "ytfobeapcmgjhbaagreatdoor", sum := "07e20329b7a5dcfc5c2d2525083265f5d8f7c8083bef4e4b58935379c1ef1667", func := "gridhall/gridhallkeep3.NetdispatchDear", spec := "netdispatchDear", inPlace := ["internal/bytealg.IndexByteString", "internal/bytealg.IndexString"], unfollowed := true, recurses := true, named := ["unicode/utf8.first", "unicode/utf8.acceptRanges", "internal/bytealg.MaxLen"], apart := false, laid := [("unicode/utf8.acceptRanges", laid_unicode_utf8_acceptRanges), ("unicode/utf8.first", laid_unicode_utf8_first)], narrowed := true }
def NetdispatchDearUptoSaid : Prop := netdispatchDearUptoRow.holds Tryz.pinned (OpenSpec.upto netdispatchDearSpec)

/-- 'gridhallkeep3.SettleBills', WHERE WHAT IT READS IS OF BULK AT MOST 1048576: true; the input reads as it did. -/
def settleBillsUptoRow : OpenClaim := { program := "ytfobeapcmgjhbaagreatdoor", sum := "07e20329b7a5dcfc5c2d2525083265f5d8f7c8083bef4e4b58935379c1ef1667", func := "gridhall/gridhallkeep3.SettleBills", spec := "settleBills", inPlace := ["internal/bytealg.IndexByteString", "internal/bytealg.IndexString"], unfollowed := true, recurses := true, named := ["unicode/utf8.first", "unicode/utf8.acceptRanges", "internal/bytealg.MaxLen"], apart := false, laid := [("unicode/utf8.acceptRanges", laid_unicode_utf8_acceptRanges), ("unicode/utf8.first", laid_unicode_utf8_first)], narrowed := true }
def SettleBillsUptoSaid : Prop := settleBillsUptoRow.holds Tryz.pinned (OpenSpec.upto settleBillsSpec)

/-- 'gridhalltop.TopMarket', WHERE WHAT IT READS IS OF BULK AT MOST 1048576: true; the input reads as it did. -/
def topMarketUptoRow : OpenClaim := { program := "ytfobeapcmgjhbaagreatdoor", sum := "07e20329b7a5dcfc5c2d2525083265f5d8f7c8083bef4e4b58935379c1ef1667", func := "gridhall/gridhalltop.TopMarket", spec := "topMarket", inPlace := ["internal/bytealg.IndexByteString", "internal/bytealg.IndexString"], unfollowed := true, recurses := true, named := ["unicode/utf8.first", "unicode/utf8.acceptRanges", "internal/bytealg.MaxLen"], apart := false, laid := [("unicode/utf8.acceptRanges", laid_unicode_utf8_acceptRanges), ("unicode/utf8.first", laid_unicode_utf8_first)], narrowed := true }
def TopMarketUptoSaid : Prop := topMarketUptoRow.holds Tryz.pinned (OpenSpec.upto topMarketSpec)

/-- 'gridhalltop.TopDispatch', WHERE WHAT IT READS IS OF BULK AT MOST 1048576: true; the input reads as it did. -/
def topDispatchUptoRow : OpenClaim := { program := "ytfobeapcmgjhbaagreatdoor", sum := "07e20329b7a5dcfc5c2d2525083265f5d8f7c8083bef4e4b58935379c1ef1667", func := "gridhall/gridhalltop.TopDispatch", spec := "topDispatch", inPlace := ["internal/bytealg.IndexByteString", "internal/bytealg.IndexString"], unfollowed := true, recurses := true, named := ["internal/bytealg.MaxLen", "unicode/utf8.first", "unicode/utf8.acceptRanges"], apart := false, laid := [("unicode/utf8.acceptRanges", laid_unicode_utf8_acceptRanges), ("unicode/utf8.first", laid_unicode_utf8_first)], narrowed := true }
def TopDispatchUptoSaid : Prop := topDispatchUptoRow.holds Tryz.pinned (OpenSpec.upto topDispatchSpec)

/-- 'gridhalltop.TopRights', WHERE WHAT IT READS IS OF BULK AT MOST 1048576: true; the input reads as it did. -/
def topRightsUptoRow : OpenClaim := { program := "ytfobeapcmgjhbaagreatdoor", sum := "07e20329b7a5dcfc5c2d2525083265f5d8f7c8083bef4e4b58935379c1ef1667", func := "gridhall/gridhalltop.TopRights", spec := "topRights", inPlace := ["internal/bytealg.IndexByteString", "internal/bytealg.IndexString"], unfollowed := true, recurses := true, named := ["unicode/utf8.first", "unicode/utf8.acceptRanges", "internal/bytealg.MaxLen"], apart := false, laid := [("unicode/utf8.acceptRanges", laid_unicode_utf8_acceptRanges), ("unicode/utf8.first", laid_unicode_utf8_first)], narrowed := true }
def TopRightsUptoSaid : Prop := topRightsUptoRow.holds Tryz.pinned (OpenSpec.upto topRightsSpec)

/-- 'gridhalltop.TopMoney', WHERE WHAT IT READS IS OF BULK AT MOST 1048576: true; the input reads as it did. -/
def topMoneyUptoRow : OpenClaim := { program := "ytfobeapcmgjhbaagreatdoor", sum := "07e20329b7a5dcfc5c2d2525083265f5d8f7c8083bef4e4b58935379c1ef1667", func := "gridhall/gridhalltop.TopMoney", spec := "topMoney", inPlace := ["internal/bytealg.IndexByteString", "internal/bytealg.IndexString"], unfollowed := true, recurses := true, named := ["unicode/utf8.first", "unicode/utf8.acceptRanges", "internal/bytealg.MaxLen"], apart := false, laid := [("unicode/utf8.acceptRanges", laid_unicode_utf8_acceptRanges), ("unicode/utf8.first", laid_unicode_utf8_first)], narrowed := true }
def TopMoneyUptoSaid : Prop := topMoneyUptoRow.holds Tryz.pinned (OpenSpec.upto topMoneySpec)

end Rows
end Go.Proofs.YtfobeapcmgjhbaaGreatDoor
