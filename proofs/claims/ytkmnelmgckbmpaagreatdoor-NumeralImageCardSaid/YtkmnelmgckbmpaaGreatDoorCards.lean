/-
  DERIVED. GIVEN WITH THE SEED: THE CARDS: each row of YtkmnelmgckbmpaaGreatDoorRows.lean that lists a variable, with what it lists TIED to the program's text (the seventh form; the later family's looks); each row that meets fmt, with fmt's text TOLD by the authors' own Lean function (tested against real Go, not proved from fmt's source: count such statements apart). THE CARD IS WHAT COUNTS. Prove the row's statement (the work); the ties are given (YtkmnelmgckbmpaaGreatDoorTie.lean); close each card by the builder's one call (the guide's Derived/Test/ToyasCard.lean, 'card_holds'). Laid BY PROGRAM, IN A SANDBOX (cutbox-door.mjs). By AI agents, Wed Nov 11 2026. No macro, syntax, notation, axiom, sorry.
-/
import Derived.Test.YtkmnelmgckbmpaaGreatDoorRows
import GoSem.ClaimSeven
namespace Go.Proofs.YtkmnelmgckbmpaaGreatDoor
namespace Rows

/-- THE TIED CARD OF 'gherkinlaw03.NumeralImage'. -/
def numeralImageCard : Claim7 := { stood := { row := numeralImageRow, standIns := [], harness := (true, "b82459e0dd8fc11c641030b14ca8febd6d7cede3803233eba3436617b16bfcdf"), looks := true }, kinds := [], alts := [], laidByText := true, laidKinds := [.data, .pinned], laidTests := true, laidLooks := .later }
def NumeralImageCardSaid : Prop := Claim7.holds Tryz.pinned (.plain (OpenSpec.ofChange numeralImageSpec)) numeralImageCard

/-- THE SECOND FORM's CARD OF 'gherkinlaw03.NumeralImage'. -/
def numeralImageUptoCard : Claim7 := { stood := { row := numeralImageUptoRow, standIns := [], harness := (true, "b82459e0dd8fc11c641030b14ca8febd6d7cede3803233eba3436617b16bfcdf"), looks := true }, kinds := [], alts := [], laidByText := true, laidKinds := [.data, .pinned], laidTests := true, laidLooks := .later }
def NumeralImageUptoCardSaid : Prop := Claim7.holds Tryz.pinned (.plain (OpenSpec.upto numeralImageSpec)) numeralImageUptoCard
end Rows
end Go.Proofs.YtkmnelmgckbmpaaGreatDoor
