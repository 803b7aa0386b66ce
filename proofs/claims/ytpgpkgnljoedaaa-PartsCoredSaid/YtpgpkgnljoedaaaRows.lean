/-
  No cell of these rows narrows 'for every input' (looked for: loops, veiled, ifaces, maps, wideKeys, modest, calm, conditions, laid).
  DERIVED. THE GIVEN ROWS OF THIS SEAT. 14 by the template 'for every input the law returns true; each argument reads behind the call as it read before'; 0 by the template 'total and deterministic' (their statements: YtpgpkgnljoedaaaTotals.lean).
  GIVEN WITH THE SEED: the statements are not yours to turn. If you find one false, say at which input.
  Laid BY PROGRAM, IN A SANDBOX (cutbox-rows.mjs): the forced cells as the released guide's own fill.sh prints them over the translation 0bb865d7101c3fb2… (all of the seat's roots in one cut). By AI agents, Wed Nov 11 2026. No macro, syntax, notation, axiom, sorry.
-/
import Derived.Test.YtpgpkgnljoedaaaChecked
import GoSem.Claim
import GoSem.ClaimJoined
import GoSem.ClaimMapViews
import Derived.JoinedTies
import Derived.KernelRfl
namespace Go.Proofs.Ytpgpkgnljoedaaa
/- THE CELL 'sum', in the pinned program and in every row, IS THE sha256 OF THE DUMP (.gsa) THAT YtpgpkgnljoedaaaProg.lean LOADS. Nothing in Lean hashes anything: it is a label: what it is worth is what the hold of that sum in a sandbox is worth. -/
noncomputable def Try.pinned : Pinned := { name := "ytpgpkgnljoedaaa", sum := "0bb865d7101c3fb2b05fe31b7bd744406cf43d26e2d07a13b24e13750ed06265", checked := Try.checked }
namespace Rows
def none {H : Type} : Left H := { results := [], args := [] }

/-- 'gherkinlaw02.PartsLists': WHATEVER THE INPUT: true; the input reads as it did. -/
def partsListsSpec : ChangeSpec := { name := "partsLists", fn := fun _ => fun
  | [d] => { results := [.lit (.bool true)], args := [d] }
  | _ => none }
def partsListsRow : OpenClaim := { program := "ytpgpkgnljoedaaa", sum := "0bb865d7101c3fb2b05fe31b7bd744406cf43d26e2d07a13b24e13750ed06265", func := "gherkin/gherkinlaw02.PartsLists", spec := "partsLists", unfollowed := true, recurses := true, plainKeys := false, apart := false }
def PartsListsSaid : Prop := partsListsRow.holds Try.pinned (OpenSpec.ofChange partsListsSpec)

/-- ITS FALSE NEIGHBOUR: 'it returns false'. Refute it at one input. -/
def partsListsWrong : ChangeSpec := { name := "partsLists", fn := fun _ => fun
  | [d] => { results := [.lit (.bool false)], args := [d] }
  | _ => none }
def PartsListsWrongFalsely : Prop := partsListsRow.holds Try.pinned (OpenSpec.ofChange partsListsWrong)

/-- 'gherkinlaw02.PartsPentagons': WHATEVER THE INPUT: true; the input reads as it did. -/
def partsPentagonsSpec : ChangeSpec := { name := "partsPentagons", fn := fun _ => fun
  | [d] => { results := [.lit (.bool true)], args := [d] }
  | _ => none }
def partsPentagonsRow : OpenClaim := { program := "ytpgpkgnljoedaaa", sum := "0bb865d7101c3fb2b05fe31b7bd744406cf43d26e2d07a13b24e13750ed06265", func := "gherkin/gherkinlaw02.PartsPentagons", spec := "partsPentagons", unfollowed := true, recurses := true, plainKeys := false, apart := false }
def PartsPentagonsSaid : Prop := partsPentagonsRow.holds Try.pinned (OpenSpec.ofChange partsPentagonsSpec)

/-- ITS FALSE NEIGHBOUR: 'it returns false'. Refute it at one input. -/
def partsPentagonsWrong : ChangeSpec := { name := "partsPentagons", fn := fun _ => fun
  | [d] => { results := [.lit (.bool false)], args := [d] }
  | _ => none }
def PartsPentagonsWrongFalsely : Prop := partsPentagonsRow.holds Try.pinned (OpenSpec.ofChange partsPentagonsWrong)

/-- 'gherkinlaw02.PartsFranklin': WHATEVER THE INPUT: true; the input reads as it did. -/
def partsFranklinSpec : ChangeSpec := { name := "partsFranklin", fn := fun _ => fun
  | [d] => { results := [.lit (.bool true)], args := [d] }
  | _ => none }
def partsFranklinRow : OpenClaim := { program := "ytpgpkgnljoedaaa", sum := "0bb865d7101c3fb2b05fe31b7bd744406cf43d26e2d07a13b24e13750ed06265", func := "gherkin/gherkinlaw02.PartsFranklin", spec := "partsFranklin", unfollowed := true, recurses := true, plainKeys := false, apart := false }
def PartsFranklinSaid : Prop := partsFranklinRow.holds Try.pinned (OpenSpec.ofChange partsFranklinSpec)

/-- ITS FALSE NEIGHBOUR: 'it returns false'. Refute it at one input. -/
def partsFranklinWrong : ChangeSpec := { name := "partsFranklin", fn := fun _ => fun
  | [d] => { results := [.lit (.bool false)], args := [d] }
  | _ => none }
def PartsFranklinWrongFalsely : Prop := partsFranklinRow.holds Try.pinned (OpenSpec.ofChange partsFranklinWrong)

/-- 'gherkinlaw02.PartsKinds': WHATEVER THE INPUT: true; the input reads as it did. -/
def partsKindsSpec : ChangeSpec := { name := "partsKinds", fn := fun _ => fun
  | [d1, d2] => { results := [.lit (.bool true)], args := [d1, d2] }
  | _ => none }
def partsKindsRow : OpenClaim := { program := "ytpgpkgnljoedaaa", sum := "0bb865d7101c3fb2b05fe31b7bd744406cf43d26e2d07a13b24e13750ed06265", func := "gherkin/gherkinlaw02.PartsKinds", spec := "partsKinds", unfollowed := true, recurses := true, plainKeys := false, apart := false }
def PartsKindsSaid : Prop := partsKindsRow.holds Try.pinned (OpenSpec.ofChange partsKindsSpec)

/-- ITS FALSE NEIGHBOUR: 'it returns false'. Refute it at one input. -/
def partsKindsWrong : ChangeSpec := { name := "partsKinds", fn := fun _ => fun
  | [d1, d2] => { results := [.lit (.bool false)], args := [d1, d2] }
  | _ => none }
def PartsKindsWrongFalsely : Prop := partsKindsRow.holds Try.pinned (OpenSpec.ofChange partsKindsWrong)

/-- 'gherkinlaw02.PartsTurned': WHATEVER THE INPUT: true; the input reads as it did. -/
def partsTurnedSpec : ChangeSpec := { name := "partsTurned", fn := fun _ => fun
  | [d] => { results := [.lit (.bool true)], args := [d] }
  | _ => none }
def partsTurnedRow : OpenClaim := { program := "ytpgpkgnljoedaaa", sum := "0bb865d7101c3fb2b05fe31b7bd744406cf43d26e2d07a13b24e13750ed06265", func := "gherkin/gherkinlaw02.PartsTurned", spec := "partsTurned", unfollowed := true, recurses := true, plainKeys := false, apart := false }
def PartsTurnedSaid : Prop := partsTurnedRow.holds Try.pinned (OpenSpec.ofChange partsTurnedSpec)

/-- ITS FALSE NEIGHBOUR: 'it returns false'. Refute it at one input. -/
def partsTurnedWrong : ChangeSpec := { name := "partsTurned", fn := fun _ => fun
  | [d] => { results := [.lit (.bool false)], args := [d] }
  | _ => none }
def PartsTurnedWrongFalsely : Prop := partsTurnedRow.holds Try.pinned (OpenSpec.ofChange partsTurnedWrong)

/-- 'gherkinlaw02.PartsResidues': WHATEVER THE INPUT: true; the input reads as it did. -/
def partsResiduesSpec : ChangeSpec := { name := "partsResidues", fn := fun _ => fun
  | [d] => { results := [.lit (.bool true)], args := [d] }
  | _ => none }
def partsResiduesRow : OpenClaim := { program := "ytpgpkgnljoedaaa", sum := "0bb865d7101c3fb2b05fe31b7bd744406cf43d26e2d07a13b24e13750ed06265", func := "gherkin/gherkinlaw02.PartsResidues", spec := "partsResidues", unfollowed := true, recurses := true, plainKeys := false, apart := false }
def PartsResiduesSaid : Prop := partsResiduesRow.holds Try.pinned (OpenSpec.ofChange partsResiduesSpec)

/-- ITS FALSE NEIGHBOUR: 'it returns false'. Refute it at one input. -/
def partsResiduesWrong : ChangeSpec := { name := "partsResidues", fn := fun _ => fun
  | [d] => { results := [.lit (.bool false)], args := [d] }
  | _ => none }
def PartsResiduesWrongFalsely : Prop := partsResiduesRow.holds Try.pinned (OpenSpec.ofChange partsResiduesWrong)

/-- 'gherkinlaw02.PartsHooks': WHATEVER THE INPUT: true; the input reads as it did. -/
def partsHooksSpec : ChangeSpec := { name := "partsHooks", fn := fun _ => fun
  | [d] => { results := [.lit (.bool true)], args := [d] }
  | _ => none }
def partsHooksRow : OpenClaim := { program := "ytpgpkgnljoedaaa", sum := "0bb865d7101c3fb2b05fe31b7bd744406cf43d26e2d07a13b24e13750ed06265", func := "gherkin/gherkinlaw02.PartsHooks", spec := "partsHooks", unfollowed := true, recurses := true, plainKeys := false, apart := false }
def PartsHooksSaid : Prop := partsHooksRow.holds Try.pinned (OpenSpec.ofChange partsHooksSpec)

/-- ITS FALSE NEIGHBOUR: 'it returns false'. Refute it at one input. -/
def partsHooksWrong : ChangeSpec := { name := "partsHooks", fn := fun _ => fun
  | [d] => { results := [.lit (.bool false)], args := [d] }
  | _ => none }
def PartsHooksWrongFalsely : Prop := partsHooksRow.holds Try.pinned (OpenSpec.ofChange partsHooksWrong)

/-- 'gherkinlaw02.PartsFilled': WHATEVER THE INPUT: true; the input reads as it did. -/
def partsFilledSpec : ChangeSpec := { name := "partsFilled", fn := fun _ => fun
  | [d1, d2] => { results := [.lit (.bool true)], args := [d1, d2] }
  | _ => none }
def partsFilledRow : OpenClaim := { program := "ytpgpkgnljoedaaa", sum := "0bb865d7101c3fb2b05fe31b7bd744406cf43d26e2d07a13b24e13750ed06265", func := "gherkin/gherkinlaw02.PartsFilled", spec := "partsFilled", unfollowed := true, recurses := true, plainKeys := false, apart := false }
def PartsFilledSaid : Prop := partsFilledRow.holds Try.pinned (OpenSpec.ofChange partsFilledSpec)

/-- ITS FALSE NEIGHBOUR: 'it returns false'. Refute it at one input. -/
def partsFilledWrong : ChangeSpec := { name := "partsFilled", fn := fun _ => fun
  | [d1, d2] => { results := [.lit (.bool false)], args := [d1, d2] }
  | _ => none }
def PartsFilledWrongFalsely : Prop := partsFilledRow.holds Try.pinned (OpenSpec.ofChange partsFilledWrong)

/-- 'gherkinlaw02.PartsShapes': WHATEVER THE INPUT: true; the input reads as it did. -/
def partsShapesSpec : ChangeSpec := { name := "partsShapes", fn := fun _ => fun
  | [d] => { results := [.lit (.bool true)], args := [d] }
  | _ => none }
def partsShapesRow : OpenClaim := { program := "ytpgpkgnljoedaaa", sum := "0bb865d7101c3fb2b05fe31b7bd744406cf43d26e2d07a13b24e13750ed06265", func := "gherkin/gherkinlaw02.PartsShapes", spec := "partsShapes", unfollowed := true, recurses := true, plainKeys := false, apart := false }
def PartsShapesSaid : Prop := partsShapesRow.holds Try.pinned (OpenSpec.ofChange partsShapesSpec)

/-- ITS FALSE NEIGHBOUR: 'it returns false'. Refute it at one input. -/
def partsShapesWrong : ChangeSpec := { name := "partsShapes", fn := fun _ => fun
  | [d] => { results := [.lit (.bool false)], args := [d] }
  | _ => none }
def PartsShapesWrongFalsely : Prop := partsShapesRow.holds Try.pinned (OpenSpec.ofChange partsShapesWrong)

/-- 'gherkinlaw02.PartsMoved': WHATEVER THE INPUT: true; the input reads as it did. -/
def partsMovedSpec : ChangeSpec := { name := "partsMoved", fn := fun _ => fun
  | [d] => { results := [.lit (.bool true)], args := [d] }
  | _ => none }
def partsMovedRow : OpenClaim := { program := "ytpgpkgnljoedaaa", sum := "0bb865d7101c3fb2b05fe31b7bd744406cf43d26e2d07a13b24e13750ed06265", func := "gherkin/gherkinlaw02.PartsMoved", spec := "partsMoved", unfollowed := true, recurses := true, plainKeys := false, apart := false }
def PartsMovedSaid : Prop := partsMovedRow.holds Try.pinned (OpenSpec.ofChange partsMovedSpec)

/-- ITS FALSE NEIGHBOUR: 'it returns false'. Refute it at one input. -/
def partsMovedWrong : ChangeSpec := { name := "partsMoved", fn := fun _ => fun
  | [d] => { results := [.lit (.bool false)], args := [d] }
  | _ => none }
def PartsMovedWrongFalsely : Prop := partsMovedRow.holds Try.pinned (OpenSpec.ofChange partsMovedWrong)

/-- 'gherkinlaw02.PartsPairs': WHATEVER THE INPUT: true; the input reads as it did. -/
def partsPairsSpec : ChangeSpec := { name := "partsPairs", fn := fun _ => fun
  | [d] => { results := [.lit (.bool true)], args := [d] }
  | _ => none }
def partsPairsRow : OpenClaim := { program := "ytpgpkgnljoedaaa", sum := "0bb865d7101c3fb2b05fe31b7bd744406cf43d26e2d07a13b24e13750ed06265", func := "gherkin/gherkinlaw02.PartsPairs", spec := "partsPairs", unfollowed := true, recurses := true, plainKeys := false, apart := false }
def PartsPairsSaid : Prop := partsPairsRow.holds Try.pinned (OpenSpec.ofChange partsPairsSpec)

/-- ITS FALSE NEIGHBOUR: 'it returns false'. Refute it at one input. -/
def partsPairsWrong : ChangeSpec := { name := "partsPairs", fn := fun _ => fun
  | [d] => { results := [.lit (.bool false)], args := [d] }
  | _ => none }
def PartsPairsWrongFalsely : Prop := partsPairsRow.holds Try.pinned (OpenSpec.ofChange partsPairsWrong)

/-- 'gherkinlaw02.PartsHalved': WHATEVER THE INPUT: true; the input reads as it did. -/
def partsHalvedSpec : ChangeSpec := { name := "partsHalved", fn := fun _ => fun
  | [d1, d2] => { results := [.lit (.bool true)], args := [d1, d2] }
  | _ => none }
def partsHalvedRow : OpenClaim := { program := "ytpgpkgnljoedaaa", sum := "0bb865d7101c3fb2b05fe31b7bd744406cf43d26e2d07a13b24e13750ed06265", func := "gherkin/gherkinlaw02.PartsHalved", spec := "partsHalved", unfollowed := true, recurses := true, plainKeys := false, apart := false }
def PartsHalvedSaid : Prop := partsHalvedRow.holds Try.pinned (OpenSpec.ofChange partsHalvedSpec)

/-- ITS FALSE NEIGHBOUR: 'it returns false'. Refute it at one input. -/
def partsHalvedWrong : ChangeSpec := { name := "partsHalved", fn := fun _ => fun
  | [d1, d2] => { results := [.lit (.bool false)], args := [d1, d2] }
  | _ => none }
def PartsHalvedWrongFalsely : Prop := partsHalvedRow.holds Try.pinned (OpenSpec.ofChange partsHalvedWrong)

/-- 'gherkinlaw02.PartsCores': WHATEVER THE INPUT: true; the input reads as it did. -/
def partsCoresSpec : ChangeSpec := { name := "partsCores", fn := fun _ => fun
  | [d1, d2] => { results := [.lit (.bool true)], args := [d1, d2] }
  | _ => none }
def partsCoresRow : OpenClaim := { program := "ytpgpkgnljoedaaa", sum := "0bb865d7101c3fb2b05fe31b7bd744406cf43d26e2d07a13b24e13750ed06265", func := "gherkin/gherkinlaw02.PartsCores", spec := "partsCores", unfollowed := true, recurses := true, plainKeys := false, apart := false }
def PartsCoresSaid : Prop := partsCoresRow.holds Try.pinned (OpenSpec.ofChange partsCoresSpec)

/-- ITS FALSE NEIGHBOUR: 'it returns false'. Refute it at one input. -/
def partsCoresWrong : ChangeSpec := { name := "partsCores", fn := fun _ => fun
  | [d1, d2] => { results := [.lit (.bool false)], args := [d1, d2] }
  | _ => none }
def PartsCoresWrongFalsely : Prop := partsCoresRow.holds Try.pinned (OpenSpec.ofChange partsCoresWrong)

/-- 'gherkinlaw02.PartsCored': WHATEVER THE INPUT: true; the input reads as it did. -/
def partsCoredSpec : ChangeSpec := { name := "partsCored", fn := fun _ => fun
  | [d1, d2] => { results := [.lit (.bool true)], args := [d1, d2] }
  | _ => none }
def partsCoredRow : OpenClaim := { program := "ytpgpkgnljoedaaa", sum := "0bb865d7101c3fb2b05fe31b7bd744406cf43d26e2d07a13b24e13750ed06265", func := "gherkin/gherkinlaw02.PartsCored", spec := "partsCored", unfollowed := true, recurses := true, plainKeys := false, apart := false }
def PartsCoredSaid : Prop := partsCoredRow.holds Try.pinned (OpenSpec.ofChange partsCoredSpec)

/-- ITS FALSE NEIGHBOUR: 'it returns false'. Refute it at one input. -/
def partsCoredWrong : ChangeSpec := { name := "partsCored", fn := fun _ => fun
  | [d1, d2] => { results := [.lit (.bool false)], args := [d1, d2] }
  | _ => none }
def PartsCoredWrongFalsely : Prop := partsCoredRow.holds Try.pinned (OpenSpec.ofChange partsCoredWrong)

/- THE SECOND FORM. 'bulk': how many values and letters a reading holds, each counted each time it is reached (what is shared counts as often as it is met; a slice's spare places count too). A statement '..UptoSaid' is the law's where the arguments, and the package variables that the reading takes, are together of bulk at most 1048576: NARROWER than '..Said'. Prove '..Said' where nothing that the law and all that it calls make is longer than what came in: it says more and counts as full. Else prove '..UptoSaid'. A law counts once. -/
mutual
def uptoBulk {H : Type} : DataW H → Nat
  | .lit (.string bytes) => bytes.length + 1
  | .lit _ => 1
  | .nil => 1
  | .ptr d => uptoBulk d + 1
  | .slice elems spare => uptoBulkAll elems + uptoBulkAll spare + 1
  | .agg parts => uptoBulkAll parts + 1
  | .iface _ d => uptoBulk d + 1
  | .map entries => uptoBulkEntries entries + 1
  | .held _ => 1
def uptoBulkAll {H : Type} : List (DataW H) → Nat
  | [] => 0
  | d :: r => uptoBulk d + uptoBulkAll r
def uptoBulkEntries {H : Type} : List (Lit × DataW H) → Nat
  | [] => 0
  | x :: r => uptoBulkEntry x + uptoBulkEntries r
def uptoBulkEntry {H : Type} : Lit × DataW H → Nat
  | (.string bytes, d) => bytes.length + uptoBulk d + 1
  | (_, d) => uptoBulk d + 1
 end
def uptoSmall : (H : Type) → List (DataW H) → Bool := fun _ ds => decide (uptoBulkAll ds ≤ 1048576)
def OpenSpec.upto (s : _root_.Go.ChangeSpec) : _root_.Go.OpenSpec := { _root_.Go.OpenSpec.ofChange s with cond := some uptoSmall }

/-- 'gherkinlaw02.PartsLists', WHERE WHAT IT READS IS OF BULK AT MOST 1048576: true; the input reads as it did. -/
def partsListsUptoRow : OpenClaim := { program := "ytpgpkgnljoedaaa", sum := "0bb865d7101c3fb2b05fe31b7bd744406cf43d26e2d07a13b24e13750ed06265", func := "gherkin/gherkinlaw02.PartsLists", spec := "partsLists", unfollowed := true, recurses := true, plainKeys := false, apart := false, narrowed := true }
def PartsListsUptoSaid : Prop := partsListsUptoRow.holds Try.pinned (OpenSpec.upto partsListsSpec)

/-- 'gherkinlaw02.PartsPentagons', WHERE WHAT IT READS IS OF BULK AT MOST 1048576: true; the input reads as it did. -/
def partsPentagonsUptoRow : OpenClaim := { program := "ytpgpkgnljoedaaa", sum := "0bb865d7101c3fb2b05fe31b7bd744406cf43d26e2d07a13b24e13750ed06265", func := "gherkin/gherkinlaw02.PartsPentagons", spec := "partsPentagons", unfollowed := true, recurses := true, plainKeys := false, apart := false, narrowed := true }
def PartsPentagonsUptoSaid : Prop := partsPentagonsUptoRow.holds Try.pinned (OpenSpec.upto partsPentagonsSpec)

/-- 'gherkinlaw02.PartsFranklin', WHERE WHAT IT READS IS OF BULK AT MOST 1048576: true; the input reads as it did. -/
def partsFranklinUptoRow : OpenClaim := { program := "ytpgpkgnljoedaaa", sum := "0bb865d7101c3fb2b05fe31b7bd744406cf43d26e2d07a13b24e13750ed06265", func := "gherkin/gherkinlaw02.PartsFranklin", spec := "partsFranklin", unfollowed := true, recurses := true, plainKeys := false, apart := false, narrowed := true }
def PartsFranklinUptoSaid : Prop := partsFranklinUptoRow.holds Try.pinned (OpenSpec.upto partsFranklinSpec)

/-- 'gherkinlaw02.PartsKinds', WHERE WHAT IT READS IS OF BULK AT MOST 1048576: true; the input reads as it did. -/
def partsKindsUptoRow : OpenClaim := { program := "ytpgpkgnljoedaaa", sum := "0bb865d7101c3fb2b05fe31b7bd744406cf43d26e2d07a13b24e13750ed06265", func := "gherkin/gherkinlaw02.PartsKinds", spec := "partsKinds", unfollowed := true, recurses := true, plainKeys := false, apart := false, narrowed := true }
def PartsKindsUptoSaid : Prop := partsKindsUptoRow.holds Try.pinned (OpenSpec.upto partsKindsSpec)

/-- 'gherkinlaw02.PartsTurned', WHERE WHAT IT READS IS OF BULK AT MOST 1048576: true; the input reads as it did. -/
def partsTurnedUptoRow : OpenClaim := { program := "ytpgpkgnljoedaaa", sum := "0bb865d7101c3fb2b05fe31b7bd744406cf43d26e2d07a13b24e13750ed06265", func := "gherkin/gherkinlaw02.PartsTurned", spec := "partsTurned", unfollowed := true, recurses := true, plainKeys := false, apart := false, narrowed := true }
def PartsTurnedUptoSaid : Prop := partsTurnedUptoRow.holds Try.pinned (OpenSpec.upto partsTurnedSpec)

/-- 'gherkinlaw02.PartsResidues', WHERE WHAT IT READS IS OF BULK AT MOST 1048576: true; the input reads as it did. -/
def partsResiduesUptoRow : OpenClaim := { program := "ytpgpkgnljoedaaa", sum := "0bb865d7101c3fb2b05fe31b7bd744406cf43d26e2d07a13b24e13750ed06265", func := "gherkin/gherkinlaw02.PartsResidues", spec := "partsResidues", unfollowed := true, recurses := true, plainKeys := false, apart := false, narrowed := true }
def PartsResiduesUptoSaid : Prop := partsResiduesUptoRow.holds Try.pinned (OpenSpec.upto partsResiduesSpec)

/-- 'gherkinlaw02.PartsHooks', WHERE WHAT IT READS IS OF BULK AT MOST 1048576: true; the input reads as it did. -/
def partsHooksUptoRow : OpenClaim := { program := "ytpgpkgnljoedaaa", sum := "0bb865d7101c3fb2b05fe31b7bd744406cf43d26e2d07a13b24e13750ed06265", func := "gherkin/gherkinlaw02.PartsHooks", spec := "partsHooks", unfollowed := true, recurses := true, plainKeys := false, apart := false, narrowed := true }
def PartsHooksUptoSaid : Prop := partsHooksUptoRow.holds Try.pinned (OpenSpec.upto partsHooksSpec)

/-- 'gherkinlaw02.PartsFilled', WHERE WHAT IT READS IS OF BULK AT MOST 1048576: true; the input reads as it did. -/
def partsFilledUptoRow : OpenClaim := { program := "ytpgpkgnljoedaaa", sum := "0bb865d7101c3fb2b05fe31b7bd744406cf43d26e2d07a13b24e13750ed06265", func := "gherkin/gherkinlaw02.PartsFilled", spec := "partsFilled", unfollowed := true, recurses := true, plainKeys := false, apart := false, narrowed := true }
def PartsFilledUptoSaid : Prop := partsFilledUptoRow.holds Try.pinned (OpenSpec.upto partsFilledSpec)

/-- 'gherkinlaw02.PartsShapes', WHERE WHAT IT READS IS OF BULK AT MOST 1048576: true; the input reads as it did. -/
def partsShapesUptoRow : OpenClaim := { program := "ytpgpkgnljoedaaa", sum := "0bb865d7101c3fb2b05fe31b7bd744406cf43d26e2d07a13b24e13750ed06265", func := "gherkin/gherkinlaw02.PartsShapes", spec := "partsShapes", unfollowed := true, recurses := true, plainKeys := false, apart := false, narrowed := true }
def PartsShapesUptoSaid : Prop := partsShapesUptoRow.holds Try.pinned (OpenSpec.upto partsShapesSpec)

/-- 'gherkinlaw02.PartsMoved', WHERE WHAT IT READS IS OF BULK AT MOST 1048576: true; the input reads as it did. -/
def partsMovedUptoRow : OpenClaim := { program := "ytpgpkgnljoedaaa", sum := "0bb865d7101c3fb2b05fe31b7bd744406cf43d26e2d07a13b24e13750ed06265", func := "gherkin/gherkinlaw02.PartsMoved", spec := "partsMoved", unfollowed := true, recurses := true, plainKeys := false, apart := false, narrowed := true }
def PartsMovedUptoSaid : Prop := partsMovedUptoRow.holds Try.pinned (OpenSpec.upto partsMovedSpec)

/-- 'gherkinlaw02.PartsPairs', WHERE WHAT IT READS IS OF BULK AT MOST 1048576: true; the input reads as it did. -/
def partsPairsUptoRow : OpenClaim := { program := "ytpgpkgnljoedaaa", sum := "0bb865d7101c3fb2b05fe31b7bd744406cf43d26e2d07a13b24e13750ed06265", func := "gherkin/gherkinlaw02.PartsPairs", spec := "partsPairs", unfollowed := true, recurses := true, plainKeys := false, apart := false, narrowed := true }
def PartsPairsUptoSaid : Prop := partsPairsUptoRow.holds Try.pinned (OpenSpec.upto partsPairsSpec)

/-- 'gherkinlaw02.PartsHalved', WHERE WHAT IT READS IS OF BULK AT MOST 1048576: true; the input reads as it did. -/
def partsHalvedUptoRow : OpenClaim := { program := "ytpgpkgnljoedaaa", sum := "0bb865d7101c3fb2b05fe31b7bd744406cf43d26e2d07a13b24e13750ed06265", func := "gherkin/gherkinlaw02.PartsHalved", spec := "partsHalved", unfollowed := true, recurses := true, plainKeys := false, apart := false, narrowed := true }
def PartsHalvedUptoSaid : Prop := partsHalvedUptoRow.holds Try.pinned (OpenSpec.upto partsHalvedSpec)

/-- 'gherkinlaw02.PartsCores', WHERE WHAT IT READS IS OF BULK AT MOST 1048576: true; the input reads as it did. -/
def partsCoresUptoRow : OpenClaim := { program := "ytpgpkgnljoedaaa", sum := "0bb865d7101c3fb2b05fe31b7bd744406cf43d26e2d07a13b24e13750ed06265", func := "gherkin/gherkinlaw02.PartsCores", spec := "partsCores", unfollowed := true, recurses := true, plainKeys := false, apart := false, narrowed := true }
def PartsCoresUptoSaid : Prop := partsCoresUptoRow.holds Try.pinned (OpenSpec.upto partsCoresSpec)

/-- 'gherkinlaw02.PartsCored', WHERE WHAT IT READS IS OF BULK AT MOST 1048576: true; the input reads as it did. -/
def partsCoredUptoRow : OpenClaim := { program := "ytpgpkgnljoedaaa", sum := "0bb865d7101c3fb2b05fe31b7bd744406cf43d26e2d07a13b24e13750ed06265", func := "gherkin/gherkinlaw02.PartsCored", spec := "partsCored", unfollowed := true, recurses := true, plainKeys := false, apart := false, narrowed := true }
def PartsCoredUptoSaid : Prop := partsCoredUptoRow.holds Try.pinned (OpenSpec.upto partsCoredSpec)

end Rows
end Go.Proofs.Ytpgpkgnljoedaaa
