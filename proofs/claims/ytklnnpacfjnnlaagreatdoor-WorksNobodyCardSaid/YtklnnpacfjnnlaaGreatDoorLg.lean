/- The package variables by the rows' own condition; a world that fits. -/
import Derived.Test.YtklnnpacfjnnlaaGreatDoorGl
import Derived.Lib.LaidTab
import Derived.Shelf.Vars
import Derived.Deep.DeepHandedRow
namespace Go.Proofs.YtklnnpacfjnnlaaGreatDoor
open Go.ChangeShapes Go.WideShapes Go.ChangeAt Go.RowKit
/-- what all rows list -/
noncomputable def laidAll : List (String × DataW Unit) := Rows.worksDisksRow.laid
theorem laid_plain (W : World) (h : laidMetH Tryz.prog laidAll W) : laidMet Tryz.prog laidAll W := by
  have e : (laidAll.filter fun x => x.2.handleName?.isSome) = [] := by kernel_rfl
  unfold laidMetH at h
  rw [e] at h
  exact h
theorem glob_of (W : World) (hL : laidMetH Tryz.prog laidAll W) (hsh : W.ShapedOpen Tryz.prog) : Glob W := by
  obtain ⟨ps, hv, -, -⟩ := laid_plain W hL
  obtain ⟨g1, t1, cs1, f1, p1, q1, a1, b1, c1, d1, hv, -⟩ := hv
  obtain ⟨g2, t2, cs2, f2, p2, q2, a2, b2, c2, d2, hv, -⟩ := hv
  obtain ⟨g3, t3, cs3, f3, p3, q3, a3, b3, c3, d3, hv, -⟩ := hv
  obtain ⟨g4, t4, cs4, f4, p4, q4, a4, b4, c4, d4, hv, -⟩ := hv
  obtain ⟨g5, t5, cs5, f5, p5, q5, a5, b5, c5, d5, hv, -⟩ := hv
  obtain ⟨g6, t6, cs6, f6, p6, q6, a6, b6, c6, d6, hv, -⟩ := hv
  have e2 : g2 = 7 := Option.some.inj (a2.symm.trans (show Tryz.prog.globalNamed "math/bits.deBruijn64tab" = some 7 by kernel_rfl))
  have e3 : g3 = 3 := Option.some.inj (a3.symm.trans gPow)
  have e5 : g5 = 2 := Option.some.inj (a5.symm.trans (show Tryz.prog.globalNamed "strconv.ErrRange" = some 2 by kernel_rfl))
  have e6 : g6 = 1 := Option.some.inj (a6.symm.trans (show Tryz.prog.globalNamed "strconv.ErrSyntax" = some 1 by kernel_rfl))
  subst e2 e3 e5 e6
  have y3 : t3 = 227 := Option.some.inj (b3.symm.trans (show (Tryz.prog.globals[3]?).map (·.type) = some 227 by kernel_rfl))
  have y5 : t5 = 86 := Option.some.inj (b5.symm.trans (show (Tryz.prog.globals[2]?).map (·.type) = some 86 by kernel_rfl))
  have y6 : t6 = 86 := Option.some.inj (b6.symm.trans (show (Tryz.prog.globals[1]?).map (·.type) = some 86 by kernel_rfl))
  subst y3 y5 y6
  have hif : ∃ ms, Tryz.prog.underlying 86 = some (.interface ms) := ⟨_, Tryz.underlying86⟩
  obtain ⟨ms, hif⟩ := hif
  have hpow : (Rows.laid_internal_strconv_uint64pow10 : DataW Unit) = Lib.tabData .u64 Lib.pow10Tab := by kernel_rfl
  have d3' : DataW.trod (fun _ => ()) Tryz.prog W 0 (fun _ => true) false f3 227 cs3.toList = some (Lib.tabData .u64 Lib.pow10Tab, p3) := by rw [← hpow]; exact d3
  have z3 := Lib.cells_of_tab Tryz.underlying227 Tryz.underlying176 (by kernel_rfl) (by kernel_rfl) d3'
  obtain ⟨_, u5, v5, z5, -, -⟩ := iface_of_trod hif d5
  obtain ⟨_, u6, v6, z6, -, -⟩ := iface_of_trod hif d6
  refine ⟨?_, ?_, cell_of_shapedOpen_int (zero := #[.int .i64 0]) (t := 3) hsh (Nat.lt_of_lt_of_eq (show 0 < 8 by omega) (show 8 = Tryz.prog.globals.size by kernel_rfl)) (by kernel_rfl) rfl (by kernel_rfl) (by kernel_rfl) Tryz.underlying3, ⟨.iface u6 v6, ?_, .inr ⟨_, _, rfl⟩⟩, ⟨.iface u5 v5, ?_, .inr ⟨_, _, rfl⟩⟩⟩
  · unfold World.var? at c2
    rw [a2] at c2
    simp only [Option.bind_some] at c2
    cases hh : W.heap[7]? with
    | none => rw [hh] at c2; simp at c2
    | some o => have := (Array.getElem?_eq_some_iff.1 hh).1; omega
  · unfold Lib.TabIs
    rw [c3, ← z3]
  · have h1 : cs6[0]? = some (.iface u6 v6) := by rw [← Array.getElem?_toList, z6]; rfl
    exact (World.var?_cell a6 c6 0).trans h1
  · have h1 : cs5[0]? = some (.iface u5 v5) := by rw [← Array.getElem?_toList, z5]; rfl
    exact (World.var?_cell a5 c5 0).trans h1
/-- cells of a datum of integers -/
def litCells : DataW Unit → Array Value
  | .agg l => (l.flatMap fun
    | .lit (.int k n) => [Value.int k n]
    | .agg m => m.map fun
      | .lit (.int k n) => Value.int k n
      | _ => undef
    | _ => [undef]).toArray
  | _ => #[]
def layCells (cs : Array Value) : Obj → Obj
  | .cells _ t frozen => .cells cs t frozen
  | o => o
/-- A world for the witness. -/
noncomputable def laidWorld (os : Os) : World :=
  { World.holding Tryz.prog os ⟨#[], #[], []⟩ with heap :=
    ((((((((((World.holding Tryz.prog os ⟨#[], #[], []⟩).heap.modify 1 (layCells #[.iface 290 (.pointer (some ⟨(World.holding Tryz.prog os ⟨#[], #[], []⟩).heap.size, 0, none⟩))])).modify 2
      (layCells #[.iface 290 (.pointer (some ⟨(World.holding Tryz.prog os ⟨#[], #[], []⟩).heap.size + 1, 0, none⟩))])).modify 3 (layCells (Lib.pow10Tab.map fun z => Value.int .u64 z).toArray)).modify 4
      (layCells (Pinned.utf8FirstZ.map fun n : Nat => Value.int .u8 n).toArray)).modify 5 (layCells (litCells Rows.laid_unicode_utf8_acceptRanges))).modify 6 (layCells (litCells Rows.laid_math_bits_deBruijn32tab))).modify 7
      (layCells (litCells Rows.laid_math_bits_deBruijn64tab))).push (.cells #[.string ⟨#[105, 110, 118, 97, 108, 105, 100, 32, 115, 121, 110, 116, 97, 120]⟩] 292)).push
      (.cells #[.string ⟨#[118, 97, 108, 117, 101, 32, 111, 117, 116, 32, 111, 102, 32, 114, 97, 110, 103, 101]⟩] 292)) }
theorem laid_met (os : Os) (args : Array Value) : laidMet Tryz.prog laidAll ((laidWorld os).forCall (fun _ _ => 0) ⟨#[], args, []⟩).memory :=
  laidMet_of_run' 8 (by kernel_rfl) (by kernel_rfl)
end Go.Proofs.YtklnnpacfjnnlaaGreatDoor
