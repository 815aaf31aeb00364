/-
  DERIVED. GIVEN WITH THE SEED: THE CARDS: each row of YtfdkpmbpnppllaaDoorRows.lean that lists a variable, with what it lists TIED to the program's text (the seventh form; the later family's looks); each row that meets fmt, with fmt's text TOLD by the authors' own Lean function (tested against real Go, not proved from fmt's source: count such statements apart). THE CARD IS WHAT COUNTS. Prove the row's statement (the work); the ties are given (YtfdkpmbpnppllaaDoorTie.lean); close each card by the builder's one call (the guide's Derived/Test/ToyasCard.lean, 'card_holds'). Laid BY PROGRAM, IN A SANDBOX (cutbox-door.mjs). By AI agents, Wed Nov 11 2026. No macro, syntax, notation, axiom, sorry.
-/
import Derived.Test.YtfdkpmbpnppllaaDoorRows
import GoSem.ClaimSeven
namespace Go.Proofs.YtfdkpmbpnppllaaDoor
namespace Rows

/-- THE TIED CARD OF 'laws.FnExactFormatNumbers'. -/
def fnExactFormatNumbersCard : Claim7 := { stood := { row := fnExactFormatNumbersRow, standIns := [], harness := (true, "4caaead741a571749087ee861fc29be4f4617894ed961ce92df52c7bd68c2207"), looks := false }, kinds := [], alts := [], laidByText := true, laidKinds := [.data, .data, .data], laidTests := true, laidLooks := .later }
def FnExactFormatNumbersCardSaid : Prop := Claim7.holds Tryd.pinned (.plain (OpenSpec.ofChange fnExactFormatNumbersSpec)) fnExactFormatNumbersCard

/-- THE TIED CARD OF 'laws.FnExactFormatCells'. -/
def fnExactFormatCellsCard : Claim7 := { stood := { row := fnExactFormatCellsRow, standIns := [], harness := (true, "4caaead741a571749087ee861fc29be4f4617894ed961ce92df52c7bd68c2207"), looks := false }, kinds := [], alts := [], laidByText := true, laidKinds := [.data, .data, .data], laidTests := true, laidLooks := .later }
def FnExactFormatCellsCardSaid : Prop := Claim7.holds Tryd.pinned (.plain (OpenSpec.ofChange fnExactFormatCellsSpec)) fnExactFormatCellsCard

/-- THE TIED CARD OF 'laws.FnExactFormatDepots'. -/
def fnExactFormatDepotsCard : Claim7 := { stood := { row := fnExactFormatDepotsRow, standIns := [], harness := (true, "4caaead741a571749087ee861fc29be4f4617894ed961ce92df52c7bd68c2207"), looks := false }, kinds := [], alts := [], laidByText := true, laidKinds := [.data, .data, .data], laidTests := true, laidLooks := .later }
def FnExactFormatDepotsCardSaid : Prop := Claim7.holds Tryd.pinned (.plain (OpenSpec.ofChange fnExactFormatDepotsSpec)) fnExactFormatDepotsCard

/-- THE TIED CARD OF 'laws.FnExactFormatJournal'. -/
def fnExactFormatJournalCard : Claim7 := { stood := { row := fnExactFormatJournalRow, standIns := [], harness := (true, "4caaead741a571749087ee861fc29be4f4617894ed961ce92df52c7bd68c2207"), looks := false }, kinds := [], alts := [], laidByText := true, laidKinds := [.data, .data, .data], laidTests := true, laidLooks := .later }
def FnExactFormatJournalCardSaid : Prop := Claim7.holds Tryd.pinned (.plain (OpenSpec.ofChange fnExactFormatJournalSpec)) fnExactFormatJournalCard

/-- THE TIED CARD OF 'laws.FnExactFormatTrek'. -/
def fnExactFormatTrekCard : Claim7 := { stood := { row := fnExactFormatTrekRow, standIns := [], harness := (true, "4caaead741a571749087ee861fc29be4f4617894ed961ce92df52c7bd68c2207"), looks := false }, kinds := [], alts := [], laidByText := true, laidKinds := [.data, .data, .data], laidTests := true, laidLooks := .later }
def FnExactFormatTrekCardSaid : Prop := Claim7.holds Tryd.pinned (.plain (OpenSpec.ofChange fnExactFormatTrekSpec)) fnExactFormatTrekCard

/-- THE SECOND FORM's CARD OF 'laws.FnExactFormatNumbers'. -/
def fnExactFormatNumbersUptoCard : Claim7 := { stood := { row := fnExactFormatNumbersUptoRow, standIns := [], harness := (true, "4caaead741a571749087ee861fc29be4f4617894ed961ce92df52c7bd68c2207"), looks := false }, kinds := [], alts := [], laidByText := true, laidKinds := [.data, .data, .data], laidTests := true, laidLooks := .later }
def FnExactFormatNumbersUptoCardSaid : Prop := Claim7.holds Tryd.pinned (.plain (OpenSpec.upto fnExactFormatNumbersSpec)) fnExactFormatNumbersUptoCard

/-- THE SECOND FORM's CARD OF 'laws.FnExactFormatCells'. -/
def fnExactFormatCellsUptoCard : Claim7 := { stood := { row := fnExactFormatCellsUptoRow, standIns := [], harness := (true, "4caaead741a571749087ee861fc29be4f4617894ed961ce92df52c7bd68c2207"), looks := false }, kinds := [], alts := [], laidByText := true, laidKinds := [.data, .data, .data], laidTests := true, laidLooks := .later }
def FnExactFormatCellsUptoCardSaid : Prop := Claim7.holds Tryd.pinned (.plain (OpenSpec.upto fnExactFormatCellsSpec)) fnExactFormatCellsUptoCard

/-- THE SECOND FORM's CARD OF 'laws.FnExactFormatDepots'. -/
def fnExactFormatDepotsUptoCard : Claim7 := { stood := { row := fnExactFormatDepotsUptoRow, standIns := [], harness := (true, "4caaead741a571749087ee861fc29be4f4617894ed961ce92df52c7bd68c2207"), looks := false }, kinds := [], alts := [], laidByText := true, laidKinds := [.data, .data, .data], laidTests := true, laidLooks := .later }
def FnExactFormatDepotsUptoCardSaid : Prop := Claim7.holds Tryd.pinned (.plain (OpenSpec.upto fnExactFormatDepotsSpec)) fnExactFormatDepotsUptoCard

/-- THE SECOND FORM's CARD OF 'laws.FnExactFormatJournal'. -/
def fnExactFormatJournalUptoCard : Claim7 := { stood := { row := fnExactFormatJournalUptoRow, standIns := [], harness := (true, "4caaead741a571749087ee861fc29be4f4617894ed961ce92df52c7bd68c2207"), looks := false }, kinds := [], alts := [], laidByText := true, laidKinds := [.data, .data, .data], laidTests := true, laidLooks := .later }
def FnExactFormatJournalUptoCardSaid : Prop := Claim7.holds Tryd.pinned (.plain (OpenSpec.upto fnExactFormatJournalSpec)) fnExactFormatJournalUptoCard

/-- THE SECOND FORM's CARD OF 'laws.FnExactFormatTrek'. -/
def fnExactFormatTrekUptoCard : Claim7 := { stood := { row := fnExactFormatTrekUptoRow, standIns := [], harness := (true, "4caaead741a571749087ee861fc29be4f4617894ed961ce92df52c7bd68c2207"), looks := false }, kinds := [], alts := [], laidByText := true, laidKinds := [.data, .data, .data], laidTests := true, laidLooks := .later }
def FnExactFormatTrekUptoCardSaid : Prop := Claim7.holds Tryd.pinned (.plain (OpenSpec.upto fnExactFormatTrekSpec)) fnExactFormatTrekUptoCard
end Rows
end Go.Proofs.YtfdkpmbpnppllaaDoor
