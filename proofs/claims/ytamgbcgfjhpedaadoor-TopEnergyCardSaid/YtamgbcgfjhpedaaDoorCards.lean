/-
  DERIVED. GIVEN WITH THE SEED: THE CARDS: each row of YtamgbcgfjhpedaaDoorRows.lean that lists a variable, with what it lists TIED to the program's text (the seventh form; the later family's looks); each row that meets fmt, with fmt's text TOLD by the authors' own Lean function (tested against real Go, not proved from fmt's source: count such statements apart). THE CARD IS WHAT COUNTS. Prove the row's statement (the work); the ties are given (YtamgbcgfjhpedaaDoorTie.lean); close each card by the builder's one call (the guide's Derived/Test/ToyasCard.lean, 'card_holds'). Laid BY PROGRAM, IN A SANDBOX (cutbox-door.mjs). By AI agents, Wed Nov 11 2026. No macro, syntax, notation, axiom, sorry.
-/
import Derived.Test.YtamgbcgfjhpedaaDoorRows
import GoSem.ClaimSeven
namespace Go.Proofs.YtamgbcgfjhpedaaDoor
namespace Rows

/-- THE TIED CARD OF 'gridhallkeep3.PriceParts'. -/
def pricePartsCard : Claim7 := { stood := { row := pricePartsRow, standIns := [], harness := (true, "37040a1bfb2524d4efdd731ab964d5fcd76f0f52d6904787d105ce1770f36f28"), looks := false }, kinds := [], alts := [], laidByText := true, laidKinds := [.data, .pinned], laidTests := true, laidLooks := .later }
def PricePartsCardSaid : Prop := Claim7.holds Tryd.pinned (.plain (OpenSpec.ofChange pricePartsSpec)) pricePartsCard

/-- THE TIED CARD OF 'gridhallkeep3.SettleKept'. -/
def settleKeptCard : Claim7 := { stood := { row := settleKeptRow, standIns := [], harness := (true, "37040a1bfb2524d4efdd731ab964d5fcd76f0f52d6904787d105ce1770f36f28"), looks := false }, kinds := [], alts := [], laidByText := true, laidKinds := [.data, .pinned], laidTests := true, laidLooks := .later }
def SettleKeptCardSaid : Prop := Claim7.holds Tryd.pinned (.plain (OpenSpec.ofChange settleKeptSpec)) settleKeptCard

/-- THE TIED CARD OF 'gridhallkeep3.SettleShares'. -/
def settleSharesCard : Claim7 := { stood := { row := settleSharesRow, standIns := [], harness := (true, "37040a1bfb2524d4efdd731ab964d5fcd76f0f52d6904787d105ce1770f36f28"), looks := false }, kinds := [], alts := [], laidByText := true, laidKinds := [.data, .pinned], laidTests := true, laidLooks := .later }
def SettleSharesCardSaid : Prop := Claim7.holds Tryd.pinned (.plain (OpenSpec.ofChange settleSharesSpec)) settleSharesCard

/-- THE TIED CARD OF 'gridhallkeep3.RightsPaid'. -/
def rightsPaidCard : Claim7 := { stood := { row := rightsPaidRow, standIns := [], harness := (true, "37040a1bfb2524d4efdd731ab964d5fcd76f0f52d6904787d105ce1770f36f28"), looks := false }, kinds := [], alts := [], laidByText := true, laidKinds := [.data, .pinned], laidTests := true, laidLooks := .later }
def RightsPaidCardSaid : Prop := Claim7.holds Tryd.pinned (.plain (OpenSpec.ofChange rightsPaidSpec)) rightsPaidCard

/-- THE TIED CARD OF 'gridhalltop.TopEnergy'. -/
def topEnergyCard : Claim7 := { stood := { row := topEnergyRow, standIns := [], harness := (true, "37040a1bfb2524d4efdd731ab964d5fcd76f0f52d6904787d105ce1770f36f28"), looks := false }, kinds := [], alts := [], laidByText := true, laidKinds := [.data, .pinned], laidTests := true, laidLooks := .later }
def TopEnergyCardSaid : Prop := Claim7.holds Tryd.pinned (.plain (OpenSpec.ofChange topEnergySpec)) topEnergyCard

/-- THE SECOND FORM's CARD OF 'gridhallkeep3.PriceParts'. -/
def pricePartsUptoCard : Claim7 := { stood := { row := pricePartsUptoRow, standIns := [], harness := (true, "37040a1bfb2524d4efdd731ab964d5fcd76f0f52d6904787d105ce1770f36f28"), looks := false }, kinds := [], alts := [], laidByText := true, laidKinds := [.data, .pinned], laidTests := true, laidLooks := .later }
def PricePartsUptoCardSaid : Prop := Claim7.holds Tryd.pinned (.plain (OpenSpec.upto pricePartsSpec)) pricePartsUptoCard

/-- THE SECOND FORM's CARD OF 'gridhallkeep3.SettleKept'. -/
def settleKeptUptoCard : Claim7 := { stood := { row := settleKeptUptoRow, standIns := [], harness := (true, "37040a1bfb2524d4efdd731ab964d5fcd76f0f52d6904787d105ce1770f36f28"), looks := false }, kinds := [], alts := [], laidByText := true, laidKinds := [.data, .pinned], laidTests := true, laidLooks := .later }
def SettleKeptUptoCardSaid : Prop := Claim7.holds Tryd.pinned (.plain (OpenSpec.upto settleKeptSpec)) settleKeptUptoCard

/-- THE SECOND FORM's CARD OF 'gridhallkeep3.SettleShares'. -/
def settleSharesUptoCard : Claim7 := { stood := { row := settleSharesUptoRow, standIns := [], harness := (true, "37040a1bfb2524d4efdd731ab964d5fcd76f0f52d6904787d105ce1770f36f28"), looks := false }, kinds := [], alts := [], laidByText := true, laidKinds := [.data, .pinned], laidTests := true, laidLooks := .later }
def SettleSharesUptoCardSaid : Prop := Claim7.holds Tryd.pinned (.plain (OpenSpec.upto settleSharesSpec)) settleSharesUptoCard

/-- THE SECOND FORM's CARD OF 'gridhallkeep3.RightsPaid'. -/
def rightsPaidUptoCard : Claim7 := { stood := { row := rightsPaidUptoRow, standIns := [], harness := (true, "37040a1bfb2524d4efdd731ab964d5fcd76f0f52d6904787d105ce1770f36f28"), looks := false }, kinds := [], alts := [], laidByText := true, laidKinds := [.data, .pinned], laidTests := true, laidLooks := .later }
def RightsPaidUptoCardSaid : Prop := Claim7.holds Tryd.pinned (.plain (OpenSpec.upto rightsPaidSpec)) rightsPaidUptoCard

/-- THE SECOND FORM's CARD OF 'gridhalltop.TopEnergy'. -/
def topEnergyUptoCard : Claim7 := { stood := { row := topEnergyUptoRow, standIns := [], harness := (true, "37040a1bfb2524d4efdd731ab964d5fcd76f0f52d6904787d105ce1770f36f28"), looks := false }, kinds := [], alts := [], laidByText := true, laidKinds := [.data, .pinned], laidTests := true, laidLooks := .later }
def TopEnergyUptoCardSaid : Prop := Claim7.holds Tryd.pinned (.plain (OpenSpec.upto topEnergySpec)) topEnergyUptoCard
end Rows
end Go.Proofs.YtamgbcgfjhpedaaDoor
