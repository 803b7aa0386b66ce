/-
  DERIVED. GIVEN WITH THE SEED: THE CARDS: each row of YtklnnpacfjnnlaaGreatDoorRows.lean that lists a variable, with what it lists TIED to the program's text (the seventh form; the later family's looks); each row that meets fmt, with fmt's text TOLD by the authors' own Lean function (tested against real Go, not proved from fmt's source: count such statements apart). THE CARD IS WHAT COUNTS. Prove the row's statement (the work); the ties are given (YtklnnpacfjnnlaaGreatDoorTie.lean); close each card by the builder's one call (the guide's Derived/Test/ToyasCard.lean, 'card_holds'). Laid BY PROGRAM, IN A SANDBOX (cutbox-door.mjs). By AI agents, Wed Nov 11 2026. No macro, syntax, notation, axiom, sorry.
-/
import Derived.Test.YtklnnpacfjnnlaaGreatDoorRows
import GoSem.ClaimSeven
namespace Go.Proofs.YtklnnpacfjnnlaaGreatDoor
namespace Rows

/-- THE TIED CARD OF 'gherkinlaw10.WorksCrates'. -/
def worksCratesCard : Claim7 := { stood := { row := worksCratesRow, standIns := [], harness := (true, "4cc940828a0212ee4cd1aa1f1d801011db790a2049c13cf540ff0762dbe25bb9"), looks := true }, kinds := [], alts := [], laidByText := true, laidKinds := [.data, .data, .data, .data, .sentinel, .sentinel, .pinned], laidTests := true, laidLooks := .later }
def WorksCratesCardSaid : Prop := Claim7.holds Tryz.pinned (.plain (OpenSpec.ofChange worksCratesSpec)) worksCratesCard

/-- THE TIED CARD OF 'gherkinlaw10.WorksDisks'. -/
def worksDisksCard : Claim7 := { stood := { row := worksDisksRow, standIns := [], harness := (true, "4cc940828a0212ee4cd1aa1f1d801011db790a2049c13cf540ff0762dbe25bb9"), looks := true }, kinds := [], alts := [], laidByText := true, laidKinds := [.data, .data, .data, .data, .sentinel, .sentinel, .pinned], laidTests := true, laidLooks := .later }
def WorksDisksCardSaid : Prop := Claim7.holds Tryz.pinned (.plain (OpenSpec.ofChange worksDisksSpec)) worksDisksCard

/-- THE TIED CARD OF 'gherkinlaw10.WorksPages'. -/
def worksPagesCard : Claim7 := { stood := { row := worksPagesRow, standIns := [], harness := (true, "4cc940828a0212ee4cd1aa1f1d801011db790a2049c13cf540ff0762dbe25bb9"), looks := true }, kinds := [], alts := [], laidByText := true, laidKinds := [.data, .data, .data, .data, .sentinel, .sentinel, .pinned], laidTests := true, laidLooks := .later }
def WorksPagesCardSaid : Prop := Claim7.holds Tryz.pinned (.plain (OpenSpec.ofChange worksPagesSpec)) worksPagesCard

/-- THE TIED CARD OF 'gherkinlaw10.WorksBoxes'. -/
def worksBoxesCard : Claim7 := { stood := { row := worksBoxesRow, standIns := [], harness := (true, "4cc940828a0212ee4cd1aa1f1d801011db790a2049c13cf540ff0762dbe25bb9"), looks := true }, kinds := [], alts := [], laidByText := true, laidKinds := [.data, .data, .data, .data, .sentinel, .sentinel, .pinned], laidTests := true, laidLooks := .later }
def WorksBoxesCardSaid : Prop := Claim7.holds Tryz.pinned (.plain (OpenSpec.ofChange worksBoxesSpec)) worksBoxesCard

/-- THE TIED CARD OF 'gherkinlaw10.WorksDrops'. -/
def worksDropsCard : Claim7 := { stood := { row := worksDropsRow, standIns := [], harness := (true, "4cc940828a0212ee4cd1aa1f1d801011db790a2049c13cf540ff0762dbe25bb9"), looks := true }, kinds := [], alts := [], laidByText := true, laidKinds := [.data, .data, .data, .data, .sentinel, .sentinel, .pinned], laidTests := true, laidLooks := .later }
def WorksDropsCardSaid : Prop := Claim7.holds Tryz.pinned (.plain (OpenSpec.ofChange worksDropsSpec)) worksDropsCard

/-- THE TIED CARD OF 'gherkinlaw10.WorksOrder'. -/
def worksOrderCard : Claim7 := { stood := { row := worksOrderRow, standIns := [], harness := (true, "4cc940828a0212ee4cd1aa1f1d801011db790a2049c13cf540ff0762dbe25bb9"), looks := true }, kinds := [], alts := [], laidByText := true, laidKinds := [.data, .data, .data, .data, .sentinel, .sentinel, .pinned], laidTests := true, laidLooks := .later }
def WorksOrderCardSaid : Prop := Claim7.holds Tryz.pinned (.plain (OpenSpec.ofChange worksOrderSpec)) worksOrderCard

/-- THE TIED CARD OF 'gherkinlaw10.WorksStirs'. -/
def worksStirsCard : Claim7 := { stood := { row := worksStirsRow, standIns := [], harness := (true, "4cc940828a0212ee4cd1aa1f1d801011db790a2049c13cf540ff0762dbe25bb9"), looks := true }, kinds := [], alts := [], laidByText := true, laidKinds := [.data, .data, .data, .data, .sentinel, .sentinel, .pinned], laidTests := true, laidLooks := .later }
def WorksStirsCardSaid : Prop := Claim7.holds Tryz.pinned (.plain (OpenSpec.ofChange worksStirsSpec)) worksStirsCard

/-- THE TIED CARD OF 'gherkinlaw10.WorksShares'. -/
def worksSharesCard : Claim7 := { stood := { row := worksSharesRow, standIns := [], harness := (true, "4cc940828a0212ee4cd1aa1f1d801011db790a2049c13cf540ff0762dbe25bb9"), looks := true }, kinds := [], alts := [], laidByText := true, laidKinds := [.data, .data, .data, .data, .sentinel, .sentinel, .pinned], laidTests := true, laidLooks := .later }
def WorksSharesCardSaid : Prop := Claim7.holds Tryz.pinned (.plain (OpenSpec.ofChange worksSharesSpec)) worksSharesCard

/-- THE TIED CARD OF 'gherkinlaw10.WorksReplays'. -/
def worksReplaysCard : Claim7 := { stood := { row := worksReplaysRow, standIns := [], harness := (true, "4cc940828a0212ee4cd1aa1f1d801011db790a2049c13cf540ff0762dbe25bb9"), looks := true }, kinds := [], alts := [], laidByText := true, laidKinds := [.data, .data, .data, .data, .sentinel, .sentinel, .pinned], laidTests := true, laidLooks := .later }
def WorksReplaysCardSaid : Prop := Claim7.holds Tryz.pinned (.plain (OpenSpec.ofChange worksReplaysSpec)) worksReplaysCard

/-- THE TIED CARD OF 'gherkinlaw10.WorksStill'. -/
def worksStillCard : Claim7 := { stood := { row := worksStillRow, standIns := [], harness := (true, "4cc940828a0212ee4cd1aa1f1d801011db790a2049c13cf540ff0762dbe25bb9"), looks := true }, kinds := [], alts := [], laidByText := true, laidKinds := [.data, .data, .data, .data, .sentinel, .sentinel, .pinned], laidTests := true, laidLooks := .later }
def WorksStillCardSaid : Prop := Claim7.holds Tryz.pinned (.plain (OpenSpec.ofChange worksStillSpec)) worksStillCard

/-- THE TIED CARD OF 'gherkinlaw10.WorksNobody'. -/
def worksNobodyCard : Claim7 := { stood := { row := worksNobodyRow, standIns := [], harness := (true, "4cc940828a0212ee4cd1aa1f1d801011db790a2049c13cf540ff0762dbe25bb9"), looks := true }, kinds := [], alts := [], laidByText := true, laidKinds := [.data, .data, .data, .data, .sentinel, .sentinel, .pinned], laidTests := true, laidLooks := .later }
def WorksNobodyCardSaid : Prop := Claim7.holds Tryz.pinned (.plain (OpenSpec.ofChange worksNobodySpec)) worksNobodyCard

/-- THE TIED CARD OF 'gherkinlaw10.WorksKept'. -/
def worksKeptCard : Claim7 := { stood := { row := worksKeptRow, standIns := [], harness := (true, "4cc940828a0212ee4cd1aa1f1d801011db790a2049c13cf540ff0762dbe25bb9"), looks := true }, kinds := [], alts := [], laidByText := true, laidKinds := [.data, .data, .data, .data, .sentinel, .sentinel, .pinned], laidTests := true, laidLooks := .later }
def WorksKeptCardSaid : Prop := Claim7.holds Tryz.pinned (.plain (OpenSpec.ofChange worksKeptSpec)) worksKeptCard

/-- THE SECOND FORM's CARD OF 'gherkinlaw10.WorksCrates'. -/
def worksCratesUptoCard : Claim7 := { stood := { row := worksCratesUptoRow, standIns := [], harness := (true, "4cc940828a0212ee4cd1aa1f1d801011db790a2049c13cf540ff0762dbe25bb9"), looks := true }, kinds := [], alts := [], laidByText := true, laidKinds := [.data, .data, .data, .data, .sentinel, .sentinel, .pinned], laidTests := true, laidLooks := .later }
def WorksCratesUptoCardSaid : Prop := Claim7.holds Tryz.pinned (.plain (OpenSpec.upto worksCratesSpec)) worksCratesUptoCard

/-- THE SECOND FORM's CARD OF 'gherkinlaw10.WorksDisks'. -/
def worksDisksUptoCard : Claim7 := { stood := { row := worksDisksUptoRow, standIns := [], harness := (true, "4cc940828a0212ee4cd1aa1f1d801011db790a2049c13cf540ff0762dbe25bb9"), looks := true }, kinds := [], alts := [], laidByText := true, laidKinds := [.data, .data, .data, .data, .sentinel, .sentinel, .pinned], laidTests := true, laidLooks := .later }
def WorksDisksUptoCardSaid : Prop := Claim7.holds Tryz.pinned (.plain (OpenSpec.upto worksDisksSpec)) worksDisksUptoCard

/-- THE SECOND FORM's CARD OF 'gherkinlaw10.WorksPages'. -/
def worksPagesUptoCard : Claim7 := { stood := { row := worksPagesUptoRow, standIns := [], harness := (true, "4cc940828a0212ee4cd1aa1f1d801011db790a2049c13cf540ff0762dbe25bb9"), looks := true }, kinds := [], alts := [], laidByText := true, laidKinds := [.data, .data, .data, .data, .sentinel, .sentinel, .pinned], laidTests := true, laidLooks := .later }
def WorksPagesUptoCardSaid : Prop := Claim7.holds Tryz.pinned (.plain (OpenSpec.upto worksPagesSpec)) worksPagesUptoCard

/-- THE SECOND FORM's CARD OF 'gherkinlaw10.WorksBoxes'. -/
def worksBoxesUptoCard : Claim7 := { stood := { row := worksBoxesUptoRow, standIns := [], harness := (true, "4cc940828a0212ee4cd1aa1f1d801011db790a2049c13cf540ff0762dbe25bb9"), looks := true }, kinds := [], alts := [], laidByText := true, laidKinds := [.data, .data, .data, .data, .sentinel, .sentinel, .pinned], laidTests := true, laidLooks := .later }
def WorksBoxesUptoCardSaid : Prop := Claim7.holds Tryz.pinned (.plain (OpenSpec.upto worksBoxesSpec)) worksBoxesUptoCard

/-- THE SECOND FORM's CARD OF 'gherkinlaw10.WorksDrops'. -/
def worksDropsUptoCard : Claim7 := { stood := { row := worksDropsUptoRow, standIns := [], harness := (true, "4cc940828a0212ee4cd1aa1f1d801011db790a2049c13cf540ff0762dbe25bb9"), looks := true }, kinds := [], alts := [], laidByText := true, laidKinds := [.data, .data, .data, .data, .sentinel, .sentinel, .pinned], laidTests := true, laidLooks := .later }
def WorksDropsUptoCardSaid : Prop := Claim7.holds Tryz.pinned (.plain (OpenSpec.upto worksDropsSpec)) worksDropsUptoCard

/-- THE SECOND FORM's CARD OF 'gherkinlaw10.WorksOrder'. -/
def worksOrderUptoCard : Claim7 := { stood := { row := worksOrderUptoRow, standIns := [], harness := (true, "4cc940828a0212ee4cd1aa1f1d801011db790a2049c13cf540ff0762dbe25bb9"), looks := true }, kinds := [], alts := [], laidByText := true, laidKinds := [.data, .data, .data, .data, .sentinel, .sentinel, .pinned], laidTests := true, laidLooks := .later }
def WorksOrderUptoCardSaid : Prop := Claim7.holds Tryz.pinned (.plain (OpenSpec.upto worksOrderSpec)) worksOrderUptoCard

/-- THE SECOND FORM's CARD OF 'gherkinlaw10.WorksStirs'. -/
def worksStirsUptoCard : Claim7 := { stood := { row := worksStirsUptoRow, standIns := [], harness := (true, "4cc940828a0212ee4cd1aa1f1d801011db790a2049c13cf540ff0762dbe25bb9"), looks := true }, kinds := [], alts := [], laidByText := true, laidKinds := [.data, .data, .data, .data, .sentinel, .sentinel, .pinned], laidTests := true, laidLooks := .later }
def WorksStirsUptoCardSaid : Prop := Claim7.holds Tryz.pinned (.plain (OpenSpec.upto worksStirsSpec)) worksStirsUptoCard

/-- THE SECOND FORM's CARD OF 'gherkinlaw10.WorksShares'. -/
def worksSharesUptoCard : Claim7 := { stood := { row := worksSharesUptoRow, standIns := [], harness := (true, "4cc940828a0212ee4cd1aa1f1d801011db790a2049c13cf540ff0762dbe25bb9"), looks := true }, kinds := [], alts := [], laidByText := true, laidKinds := [.data, .data, .data, .data, .sentinel, .sentinel, .pinned], laidTests := true, laidLooks := .later }
def WorksSharesUptoCardSaid : Prop := Claim7.holds Tryz.pinned (.plain (OpenSpec.upto worksSharesSpec)) worksSharesUptoCard

/-- THE SECOND FORM's CARD OF 'gherkinlaw10.WorksReplays'. -/
def worksReplaysUptoCard : Claim7 := { stood := { row := worksReplaysUptoRow, standIns := [], harness := (true, "4cc940828a0212ee4cd1aa1f1d801011db790a2049c13cf540ff0762dbe25bb9"), looks := true }, kinds := [], alts := [], laidByText := true, laidKinds := [.data, .data, .data, .data, .sentinel, .sentinel, .pinned], laidTests := true, laidLooks := .later }
def WorksReplaysUptoCardSaid : Prop := Claim7.holds Tryz.pinned (.plain (OpenSpec.upto worksReplaysSpec)) worksReplaysUptoCard

/-- THE SECOND FORM's CARD OF 'gherkinlaw10.WorksStill'. -/
def worksStillUptoCard : Claim7 := { stood := { row := worksStillUptoRow, standIns := [], harness := (true, "4cc940828a0212ee4cd1aa1f1d801011db790a2049c13cf540ff0762dbe25bb9"), looks := true }, kinds := [], alts := [], laidByText := true, laidKinds := [.data, .data, .data, .data, .sentinel, .sentinel, .pinned], laidTests := true, laidLooks := .later }
def WorksStillUptoCardSaid : Prop := Claim7.holds Tryz.pinned (.plain (OpenSpec.upto worksStillSpec)) worksStillUptoCard

/-- THE SECOND FORM's CARD OF 'gherkinlaw10.WorksNobody'. -/
def worksNobodyUptoCard : Claim7 := { stood := { row := worksNobodyUptoRow, standIns := [], harness := (true, "4cc940828a0212ee4cd1aa1f1d801011db790a2049c13cf540ff0762dbe25bb9"), looks := true }, kinds := [], alts := [], laidByText := true, laidKinds := [.data, .data, .data, .data, .sentinel, .sentinel, .pinned], laidTests := true, laidLooks := .later }
def WorksNobodyUptoCardSaid : Prop := Claim7.holds Tryz.pinned (.plain (OpenSpec.upto worksNobodySpec)) worksNobodyUptoCard

/-- THE SECOND FORM's CARD OF 'gherkinlaw10.WorksKept'. -/
def worksKeptUptoCard : Claim7 := { stood := { row := worksKeptUptoRow, standIns := [], harness := (true, "4cc940828a0212ee4cd1aa1f1d801011db790a2049c13cf540ff0762dbe25bb9"), looks := true }, kinds := [], alts := [], laidByText := true, laidKinds := [.data, .data, .data, .data, .sentinel, .sentinel, .pinned], laidTests := true, laidLooks := .later }
def WorksKeptUptoCardSaid : Prop := Claim7.holds Tryz.pinned (.plain (OpenSpec.upto worksKeptSpec)) worksKeptUptoCard
end Rows
end Go.Proofs.YtklnnpacfjnnlaaGreatDoor
