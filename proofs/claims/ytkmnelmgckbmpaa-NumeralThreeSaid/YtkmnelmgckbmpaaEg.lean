/- Equality of two lists of gaps. -/
import Derived.Test.YtkmnelmgckbmpaaRg
import Derived.ChangeKeysEq
import Derived.Laws.StructEq
namespace Go.Proofs.Ytkmnelmgckbmpaa
open Go.RowKit Go.Shelf Go.Lib
theorem part3_0 (x y : Int) (W : World) : (part 3 #[.int .i64 x, .int .i64 y] 0).run Try.prog W = .ok (.int .i64 x) W := by kernel_rfl
theorem part3_1 (x y : Int) (W : World) : (part 3 #[.int .i64 x, .int .i64 y] 1).run Try.prog W = .ok (.int .i64 y) W := by kernel_rfl
theorem cellsOf3 : Try.prog.cellsOf 3 = 1 := by kernel_rfl
theorem eq29 (x y x' y' : Int) (W : World) : (Op.equalIn 10000 29 (.agg #[.int .i64 x, .int .i64 y]) (.agg #[.int .i64 x', .int .i64 y'])).run Try.prog W = .ok (x == x' && y == y') W := by
  obtain ⟨i0, hi, hz0, hz1, hz2⟩ := info_parts info3
  rw [show (10000 : Nat) = 9999 + 1 from rfl, run_equalIn_array (P := Try.prog) W 9999 _ _ Try.underlying29 hi, cellsOf3]
  have h1 : List.range 2 = [0, 1] := rfl
  rw [h1]
  have e1 := fun (a b : Int) => run_equalIn_int (P := Try.prog) W 9998 3 .i64 .i64 a b Try.underlying3
  simp only [Op.eqItems, Sem.run_bind, Nat.zero_mul, Nat.one_mul, part3_0, Result.andThen_ok]
  rw [e1 x x', Result.andThen_ok]
  by_cases h : x = x'
  · simp only [h, beq_self_eq_true, Bool.true_and, Bool.not_true, Bool.false_eq_true, if_false, Sem.run_bind, part3_1, Result.andThen_ok]
    rw [e1 y y', Result.andThen_ok]
    by_cases h2 : y = y' <;> simp [h2]
  · simp [h]
theorem neq29 : NeqAt Try.prog 29 (fun x => .agg (encG x).toArray) (fun x y => decide (x = y)) := by
  refine ⟨fun x y w => ?_, GuardAt.agg _ (by kernel_rfl)⟩
  simp only [encG]
  rw [run_neq_struct, eq29]
  obtain ⟨x1, x2⟩ := x
  obtain ⟨y1, y2⟩ := y
  by_cases h1 : (x1 : Int) = y1
  · have k1 : x1 = y1 := by omega
    by_cases h2 : (x2 : Int) = y2
    · have k2 : x2 = y2 := by omega
      simp [k1, k2]
    · have k2 : ¬ x2 = y2 := by omega
      simp [h1, h2, k2]
  · have k1 : ¬ x1 = y1 := by omega
    simp [h1, k1]
theorem Rw.rd {w : World} {X : Nat} {v : Value} {L : List (Nat × Nat)} (h : Rw EG 29 w X v L) (h0 : 0 < L.length) : Rd EG w v L := by
  obtain ⟨g, c, rfl, _, hlt⟩ := h.seen h0
  exact ⟨g, c, rfl, hlt, fun j x i u hj hi => h.cell hj hi⟩
theorem allEq_refl {α : Type} (eq : α → α → Bool) (he : ∀ x, eq x x = true) : ∀ (L : List α), Lib.allEq eq L L = true := by
  intro L
  induction L with
  | nil => rfl
  | cons x L ih => show (eq x x && Lib.allEq eq L L) = true; rw [he, ih]; rfl
theorem equal_gaps (v1 v2 : Value) (L : List (Nat × Nat)) (w : World) (h1 : Rd EG w v1 L) (h2 : Rd EG w v2 L) (hl : L.length ≤ 1000) :
    Calls Try.prog 8 #[v1, v2] w fun e w' => e = .returned (.bool true) ∧ Below w.heap.size w w' := by
  obtain ⟨g1, c1, rfl, _, hc1⟩ := h1
  obtain ⟨g2, c2, rfl, _, hc2⟩ := h2
  have hcon := AnyQ.slices_Equal l8 2 Try.isAgg29 Try.sizeOf29 encG (fun _ => rfl) (fun x y => decide (x = y)) neq29 g1 0 L.length c1 g2 0 L.length c2 L L w (Nat.le_refl _) (Nat.le_refl _) (by omega) (by omega)
    (fun j hj i u hu => by rw [Nat.zero_add]; exact hc1 j L[j]! i u (by rw [List.getElem?_eq_getElem hj, getElem!_pos L j hj]) hu)
    (fun j hj i u hu => by rw [Nat.zero_add]; exact hc2 j L[j]! i u (by rw [List.getElem?_eq_getElem hj, getElem!_pos L j hj]) hu)
  change Calls Try.prog 8 _ _ _ at hcon
  refine hcon.mono ?_
  rintro e w' ⟨rfl, q, rfl⟩
  refine ⟨?_, below_drewN (Below.refl _ _) _⟩
  rw [allEq_refl (fun x y => decide (x = y)) (fun x => by simp)]
end Go.Proofs.Ytkmnelmgckbmpaa
