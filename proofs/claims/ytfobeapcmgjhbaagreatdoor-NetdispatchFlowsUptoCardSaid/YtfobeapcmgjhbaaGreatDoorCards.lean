/-
  DERIVED. GIVEN WITH THE SEED: THE CARDS: each row of YtfobeapcmgjhbaaGreatDoorRows.lean that lists a variable, with what it lists TIED to the program's text (the seventh form; the later family's looks); each row that meets fmt, with fmt's text TOLD by the authors' own Lean function (tested against real Go, not proved from fmt's source: count such statements apart). THE CARD IS WHAT COUNTS. Prove the row's statement (the work); the ties are given (YtfobeapcmgjhbaaGreatDoorTie.lean); close each card by the builder's one call (the guide's Derived/Test/ToyasCard.lean, 'card_holds'). Laid BY PROGRAM, IN A SANDBOX (cutbox-door.mjs). By AI agents, Wed Nov 11 2026. No macro, syntax, notation, axiom, sorry.
-/
import Derived.Test.YtfobeapcmgjhbaaGreatDoorRows
import GoSem.ClaimSeven
namespace Go.Proofs.YtfobeapcmgjhbaaGreatDoor
namespace Rows

/-- THE TIED CARD OF 'gridhallkeep3.NetdispatchFlows'. -/
def netdispatchFlowsCard : Claim7 := { stood := { row := netdispatchFlowsRow, standIns := [], harness := (true, "83a2ca3d4841b4fb34b0d34312930da16538633b210406be02efac340b621158"), looks := false }, kinds := [], alts := [], laidByText := true, laidKinds := [.data, .pinned], laidTests := true, laidLooks := .later }
def NetdispatchFlowsCardSaid : Prop := Claim7.holds Tryz.pinned (.plain (OpenSpec.ofChange netdispatchFlowsSpec)) netdispatchFlowsCard

/-- THE TIED CARD OF 'gridhallkeep3.RightsFit'. -/
def rightsFitCard : Claim7 := { stood := { row := rightsFitRow, standIns := [], harness := (true, "83a2ca3d4841b4fb34b0d34312930da16538633b210406be02efac340b621158"), looks := false }, kinds := [], alts := [], laidByText := true, laidKinds := [.data, .pinned], laidTests := true, laidLooks := .later }
def RightsFitCardSaid : Prop := Claim7.holds Tryz.pinned (.plain (OpenSpec.ofChange rightsFitSpec)) rightsFitCard

/-- THE TIED CARD OF 'gridhallkeep3.NetdispatchProved'. -/
def netdispatchProvedCard : Claim7 := { stood := { row := netdispatchProvedRow, standIns := [], harness := (true, "83a2ca3d4841b4fb34b0d34312930da16538633b210406be02efac340b621158"), looks := false }, kinds := [], alts := [], laidByText := true, laidKinds := [.data, .pinned], laidTests := true, laidLooks := .later }
def NetdispatchProvedCardSaid : Prop := Claim7.holds Tryz.pinned (.plain (OpenSpec.ofChange netdispatchProvedSpec)) netdispatchProvedCard

/-- THE TIED CARD OF 'gridhallkeep3.PriceRents'. -/
def priceRentsCard : Claim7 := { stood := { row := priceRentsRow, standIns := [], harness := (true, "83a2ca3d4841b4fb34b0d34312930da16538633b210406be02efac340b621158"), looks := false }, kinds := [], alts := [], laidByText := true, laidKinds := [.data, .pinned], laidTests := true, laidLooks := .later }
def PriceRentsCardSaid : Prop := Claim7.holds Tryz.pinned (.plain (OpenSpec.ofChange priceRentsSpec)) priceRentsCard

/-- THE TIED CARD OF 'gridhallkeep3.PriceRefused'. -/
def priceRefusedCard : Claim7 := { stood := { row := priceRefusedRow, standIns := [], harness := (true, "83a2ca3d4841b4fb34b0d34312930da16538633b210406be02efac340b621158"), looks := false }, kinds := [], alts := [], laidByText := true, laidKinds := [.data, .pinned], laidTests := true, laidLooks := .later }
def PriceRefusedCardSaid : Prop := Claim7.holds Tryz.pinned (.plain (OpenSpec.ofChange priceRefusedSpec)) priceRefusedCard

/-- THE TIED CARD OF 'gridhallkeep3.NetdispatchDear'. -/
def netdispatchDearCard : Claim7 := { stood := { row := netdispatchDearRow, standIns := [], harness := (true, "83a2ca3d4841b4fb34b0d34312930da16538633b210406be02efac340b621158"), looks := false }, kinds := [], alts := [], laidByText := true, laidKinds := [.data, .pinned], laidTests := true, laidLooks := .later }
def NetdispatchDearCardSaid : Prop := Claim7.holds Tryz.pinned (.plain (OpenSpec.ofChange netdispatchDearSpec)) netdispatchDearCard

/-- THE TIED CARD OF 'gridhallkeep3.SettleBills'. -/
def settleBillsCard : Claim7 := { stood := { row := settleBillsRow, standIns := [], harness := (true, "83a2ca3d4841b4fb34b0d34312930da16538633b210406be02efac340b621158"), looks := false }, kinds := [], alts := [], laidByText := true, laidKinds := [.data, .pinned], laidTests := true, laidLooks := .later }
def SettleBillsCardSaid : Prop := Claim7.holds Tryz.pinned (.plain (OpenSpec.ofChange settleBillsSpec)) settleBillsCard

/-- THE TIED CARD OF 'gridhalltop.TopMarket'. -/
def topMarketCard : Claim7 := { stood := { row := topMarketRow, standIns := [], harness := (true, "83a2ca3d4841b4fb34b0d34312930da16538633b210406be02efac340b621158"), looks := false }, kinds := [], alts := [], laidByText := true, laidKinds := [.data, .pinned], laidTests := true, laidLooks := .later }
def TopMarketCardSaid : Prop := Claim7.holds Tryz.pinned (.plain (OpenSpec.ofChange topMarketSpec)) topMarketCard

/-- THE TIED CARD OF 'gridhalltop.TopDispatch'. -/
def topDispatchCard : Claim7 := { stood := { row := topDispatchRow, standIns := [], harness := (true, "83a2ca3d4841b4fb34b0d34312930da16538633b210406be02efac340b621158"), looks := false }, kinds := [], alts := [], laidByText := true, laidKinds := [.data, .pinned], laidTests := true, laidLooks := .later }
def TopDispatchCardSaid : Prop := Claim7.holds Tryz.pinned (.plain (OpenSpec.ofChange topDispatchSpec)) topDispatchCard

/-- THE TIED CARD OF 'gridhalltop.TopRights'. -/
def topRightsCard : Claim7 := { stood := { row := topRightsRow, standIns := [], harness := (true, "83a2ca3d4841b4fb34b0d34312930da16538633b210406be02efac340b621158"), looks := false }, kinds := [], alts := [], laidByText := true, laidKinds := [.data, .pinned], laidTests := true, laidLooks := .later }
def TopRightsCardSaid : Prop := Claim7.holds Tryz.pinned (.plain (OpenSpec.ofChange topRightsSpec)) topRightsCard

/-- THE TIED CARD OF 'gridhalltop.TopMoney'. -/
def topMoneyCard : Claim7 := { stood := { row := topMoneyRow, standIns := [], harness := (true, "83a2ca3d4841b4fb34b0d34312930da16538633b210406be02efac340b621158"), looks := false }, kinds := [], alts := [], laidByText := true, laidKinds := [.data, .pinned], laidTests := true, laidLooks := .later }
def TopMoneyCardSaid : Prop := Claim7.holds Tryz.pinned (.plain (OpenSpec.ofChange topMoneySpec)) topMoneyCard

/-- THE SECOND FORM's CARD OF 'gridhallkeep3.NetdispatchFlows'. -/
def netdispatchFlowsUptoCard : Claim7 := { stood := { row := netdispatchFlowsUptoRow, standIns := [], harness := (true, "83a2ca3d4841b4fb34b0d34312930da16538633b210406be02efac340b621158"), looks := false }, kinds := [], alts := [], laidByText := true, laidKinds := [.data, .pinned], laidTests := true, laidLooks := .later }
def NetdispatchFlowsUptoCardSaid : Prop := Claim7.holds Tryz.pinned (.plain (OpenSpec.upto netdispatchFlowsSpec)) netdispatchFlowsUptoCard

/-- THE SECOND FORM's CARD OF 'gridhallkeep3.RightsFit'. -/
def rightsFitUptoCard : Claim7 := { stood := { row := rightsFitUptoRow, standIns := [], harness := (true, "83a2ca3d4841b4fb34b0d34312930da16538633b210406be02efac340b621158"), looks := false }, kinds := [], alts := [], laidByText := true, laidKinds := [.data, .pinned], laidTests := true, laidLooks := .later }
def RightsFitUptoCardSaid : Prop := Claim7.holds Tryz.pinned (.plain (OpenSpec.upto rightsFitSpec)) rightsFitUptoCard

/-- THE SECOND FORM's CARD OF 'gridhallkeep3.NetdispatchProved'. -/
def netdispatchProvedUptoCard : Claim7 := { stood := { row := netdispatchProvedUptoRow, standIns := [], harness := (true, "83a2ca3d4841b4fb34b0d34312930da16538633b210406be02efac340b621158"), looks := false }, kinds := [], alts := [], laidByText := true, laidKinds := [.data, .pinned], laidTests := true, laidLooks := .later }
def NetdispatchProvedUptoCardSaid : Prop := Claim7.holds Tryz.pinned (.plain (OpenSpec.upto netdispatchProvedSpec)) netdispatchProvedUptoCard

/-- THE SECOND FORM's CARD OF 'gridhallkeep3.PriceRents'. -/
def priceRentsUptoCard : Claim7 := { stood := { row := priceRentsUptoRow, standIns := [], harness := (true, "83a2ca3d4841b4fb34b0d34312930da16538633b210406be02efac340b621158"), looks := false }, kinds := [], alts := [], laidByText := true, laidKinds := [.data, .pinned], laidTests := true, laidLooks := .later }
def PriceRentsUptoCardSaid : Prop := Claim7.holds Tryz.pinned (.plain (OpenSpec.upto priceRentsSpec)) priceRentsUptoCard

/-- THE SECOND FORM's CARD OF 'gridhallkeep3.PriceRefused'. -/
def priceRefusedUptoCard : Claim7 := { stood := { row := priceRefusedUptoRow, standIns := [], harness := (true, "83a2ca3d4841b4fb34b0d34312930da16538633b210406be02efac340b621158"), looks := false }, kinds := [], alts := [], laidByText := true, laidKinds := [.data, .pinned], laidTests := true, laidLooks := .later }
def PriceRefusedUptoCardSaid : Prop := Claim7.holds Tryz.pinned (.plain (OpenSpec.upto priceRefusedSpec)) priceRefusedUptoCard

/-- THE SECOND FORM's CARD OF 'gridhallkeep3.NetdispatchDear'. -/
def netdispatchDearUptoCard : Claim7 := { stood := { row := netdispatchDearUptoRow, standIns := [], harness := (true, "83a2ca3d4841b4fb34b0d34312930da16538633b210406be02efac340b621158"), looks := false }, kinds := [], alts := [], laidByText := true, laidKinds := [.data, .pinned], laidTests := true, laidLooks := .later }
def NetdispatchDearUptoCardSaid : Prop := Claim7.holds Tryz.pinned (.plain (OpenSpec.upto netdispatchDearSpec)) netdispatchDearUptoCard

/-- THE SECOND FORM's CARD OF 'gridhallkeep3.SettleBills'. -/
def settleBillsUptoCard : Claim7 := { stood := { row := settleBillsUptoRow, standIns := [], harness := (true, "83a2ca3d4841b4fb34b0d34312930da16538633b210406be02efac340b621158"), looks := false }, kinds := [], alts := [], laidByText := true, laidKinds := [.data, .pinned], laidTests := true, laidLooks := .later }
def SettleBillsUptoCardSaid : Prop := Claim7.holds Tryz.pinned (.plain (OpenSpec.upto settleBillsSpec)) settleBillsUptoCard

/-- THE SECOND FORM's CARD OF 'gridhalltop.TopMarket'. -/
def topMarketUptoCard : Claim7 := { stood := { row := topMarketUptoRow, standIns := [], harness := (true, "83a2ca3d4841b4fb34b0d34312930da16538633b210406be02efac340b621158"), looks := false }, kinds := [], alts := [], laidByText := true, laidKinds := [.data, .pinned], laidTests := true, laidLooks := .later }
def TopMarketUptoCardSaid : Prop := Claim7.holds Tryz.pinned (.plain (OpenSpec.upto topMarketSpec)) topMarketUptoCard

/-- THE SECOND FORM's CARD OF 'gridhalltop.TopDispatch'. -/
def topDispatchUptoCard : Claim7 := { stood := { row := topDispatchUptoRow, standIns := [], harness := (true, "83a2ca3d4841b4fb34b0d34312930da16538633b210406be02efac340b621158"), looks := false }, kinds := [], alts := [], laidByText := true, laidKinds := [.data, .pinned], laidTests := true, laidLooks := .later }
def TopDispatchUptoCardSaid : Prop := Claim7.holds Tryz.pinned (.plain (OpenSpec.upto topDispatchSpec)) topDispatchUptoCard

/-- THE SECOND FORM's CARD OF 'gridhalltop.TopRights'. -/
def topRightsUptoCard : Claim7 := { stood := { row := topRightsUptoRow, standIns := [], harness := (true, "83a2ca3d4841b4fb34b0d34312930da16538633b210406be02efac340b621158"), looks := false }, kinds := [], alts := [], laidByText := true, laidKinds := [.data, .pinned], laidTests := true, laidLooks := .later }
def TopRightsUptoCardSaid : Prop := Claim7.holds Tryz.pinned (.plain (OpenSpec.upto topRightsSpec)) topRightsUptoCard

/-- THE SECOND FORM's CARD OF 'gridhalltop.TopMoney'. -/
def topMoneyUptoCard : Claim7 := { stood := { row := topMoneyUptoRow, standIns := [], harness := (true, "83a2ca3d4841b4fb34b0d34312930da16538633b210406be02efac340b621158"), looks := false }, kinds := [], alts := [], laidByText := true, laidKinds := [.data, .pinned], laidTests := true, laidLooks := .later }
def TopMoneyUptoCardSaid : Prop := Claim7.holds Tryz.pinned (.plain (OpenSpec.upto topMoneySpec)) topMoneyUptoCard
end Rows
end Go.Proofs.YtfobeapcmgjhbaaGreatDoor
