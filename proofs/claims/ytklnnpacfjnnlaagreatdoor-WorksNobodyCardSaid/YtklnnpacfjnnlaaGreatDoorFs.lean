/- Closed facts of the rows that are those of the whole program. -/
import Derived.Test.YtklnnpacfjnnlaaGreatDoorRows
import Derived.JoinedOf
import Derived.KernelRfl
import Derived.SevenTiedAt
namespace Go.Proofs.YtklnnpacfjnnlaaGreatDoor
open Go
set_option linter.unusedVariables false
theorem sf_laidOut : (fun (P : Program) (f : FuncId) (fn : Func) (s : ChangeSpec) (c : OpenClaim) => (laidOutB P : Bool)) Tryz.pinned.checked.prog 4 Tryz.f4 (OpenSpec.ofChange Rows.worksDisksSpec).bare Rows.worksDisksRow = true := by kernel_rfl
theorem sf_rowed : (fun (P : Program) (f : FuncId) (fn : Func) (s : ChangeSpec) (c : OpenClaim) => (mapsRowed P : Bool)) Tryz.pinned.checked.prog 4 Tryz.f4 (OpenSpec.ofChange Rows.worksDisksSpec).bare Rows.worksDisksRow = true := by kernel_rfl
theorem sf_stops : (fun (P : Program) (f : FuncId) (fn : Func) (s : ChangeSpec) (c : OpenClaim) => ((P.stops == []) : Bool)) Tryz.pinned.checked.prog 4 Tryz.f4 (OpenSpec.ofChange Rows.worksDisksSpec).bare Rows.worksDisksRow = true := by kernel_rfl
theorem sf_stopKnobs : (fun (P : Program) (f : FuncId) (fn : Func) (s : ChangeSpec) (c : OpenClaim) => ((P.stopKnobs == []) : Bool)) Tryz.pinned.checked.prog 4 Tryz.f4 (OpenSpec.ofChange Rows.worksDisksSpec).bare Rows.worksDisksRow = true := by kernel_rfl
theorem sf_heard : (fun (P : Program) (f : FuncId) (fn : Func) (s : ChangeSpec) (c : OpenClaim) => (P.stopsHeard : Bool)) Tryz.pinned.checked.prog 4 Tryz.f4 (OpenSpec.ofChange Rows.worksDisksSpec).bare Rows.worksDisksRow = true := by kernel_rfl
theorem sf_enter : (fun (P : Program) (f : FuncId) (fn : Func) (s : ChangeSpec) (c : OpenClaim) => (P.mayEnter : Bool)) Tryz.pinned.checked.prog 4 Tryz.f4 (OpenSpec.ofChange Rows.worksDisksSpec).bare Rows.worksDisksRow = true := by kernel_rfl
theorem sf_plainKeys : (fun (P : Program) (f : FuncId) (fn : Func) (s : ChangeSpec) (c : OpenClaim) => ((c.plainKeys == P.plainKeys) : Bool)) Tryz.pinned.checked.prog 4 Tryz.f4 (OpenSpec.ofChange Rows.worksDisksSpec).bare Rows.worksDisksRow = true := by kernel_rfl
theorem sf_lifted : (fun (P : Program) (f : FuncId) (fn : Func) (s : ChangeSpec) (c : OpenClaim) => ((c.lifted == P.liftsFinal) : Bool)) Tryz.pinned.checked.prog 4 Tryz.f4 (OpenSpec.ofChange Rows.worksDisksSpec).bare Rows.worksDisksRow = true := by kernel_rfl
theorem sf_make : (fun (P : Program) (f : FuncId) (fn : Func) (s : ChangeSpec) (c : OpenClaim) => ((P.make == some c.make) : Bool)) Tryz.pinned.checked.prog 4 Tryz.f4 (OpenSpec.ofChange Rows.worksDisksSpec).bare Rows.worksDisksRow = true := by kernel_rfl
theorem sf_main : Tryz.pinned.checked.prog.mainIs = some ((true, "4cc940828a0212ee4cd1aa1f1d801011db790a2049c13cf540ff0762dbe25bb9").1, (true, "4cc940828a0212ee4cd1aa1f1d801011db790a2049c13cf540ff0762dbe25bb9").2.toList) := by kernel_rfl
theorem sf_looks : true = Tryz.pinned.checked.prog.looks [] := by kernel_rfl
end Go.Proofs.YtklnnpacfjnnlaaGreatDoor
