/- Equality of two arrays of two numbers. -/
import Derived.Test.YtiknocjdogbajaaK
import Derived.ChangeKeysEq
namespace Go.Proofs.Ytiknocjdogbajaa
open Go.RowKit
theorem part3_0 (x y : Int) (W : World) : (part 3 #[.int .i64 x, .int .i64 y] 0).run Try.prog W = .ok (.int .i64 x) W := by kernel_rfl
theorem part3_1 (x y : Int) (W : World) : (part 3 #[.int .i64 x, .int .i64 y] 1).run Try.prog W = .ok (.int .i64 y) W := by kernel_rfl
theorem cellsOf3 : Try.prog.cellsOf 3 = 1 := by kernel_rfl
theorem eq_of (t : TypeId) (ht : Try.prog.underlying t = some (.array 2 3)) (x y x' y' : Int) (W : World) : (Op.equalIn 10000 t (.agg #[.int .i64 x, .int .i64 y]) (.agg #[.int .i64 x', .int .i64 y'])).run Try.prog W = .ok (x == x' && y == y') W := by
  obtain ⟨i0, hi, hz0, hz1, hz2⟩ := info_parts info3
  rw [show (10000 : Nat) = 9999 + 1 from rfl, run_equalIn_array (P := Try.prog) W 9999 _ _ ht hi, cellsOf3]
  have h1 : List.range 2 = [0, 1] := rfl
  rw [h1]
  have e1 := fun (a b : Int) => run_equalIn_int (P := Try.prog) W 9998 3 .i64 .i64 a b Try.underlying3
  simp only [Op.eqItems, Sem.run_bind, Nat.zero_mul, Nat.one_mul, part3_0, Result.andThen_ok]
  rw [e1 x x', Result.andThen_ok]
  by_cases h : x = x'
  · simp only [h, beq_self_eq_true, Bool.true_and, Bool.not_true, Bool.false_eq_true, if_false, Sem.run_bind, part3_1, Result.andThen_ok]
    rw [e1 y y', Result.andThen_ok]
    by_cases h2 : y = y' <;> simp [h2]
  · simp [h]
theorem eq64 (x y x' y' : Int) (W : World) : (Op.equalIn 10000 64 (.agg #[.int .i64 x, .int .i64 y]) (.agg #[.int .i64 x', .int .i64 y'])).run Try.prog W = .ok (x == x' && y == y') W := eq_of 64 Try.underlying64 x y x' y' W
theorem eq43 (x y x' y' : Int) (W : World) : (Op.equalIn 10000 43 (.agg #[.int .i64 x, .int .i64 y]) (.agg #[.int .i64 x', .int .i64 y'])).run Try.prog W = .ok (x == x' && y == y') W := eq_of 43 Try.underlying43 x y x' y' W
end Go.Proofs.Ytiknocjdogbajaa
