/- The walk of LiftPlaces. -/
import Derived.Test.YtdkobkghhnccgaaPla
import Derived.Test.YtdkobkghhnccgaaPlb
import Derived.Test.YtdkobkghhnccgaaPlc
namespace Go.Proofs.Ytdkobkghhnccgaa
open Go.RowKit
/-- The walk of LiftPlaces. -/
theorem liftPlaces_walk (w : World) (a : Int) (_ : -9223372036854775808 ≤ a ∧ a ≤ 9223372036854775807) (b : Int) (_ : -9223372036854775808 ≤ b ∧ b ≤ 9223372036854775807) (p : Int) (_ : -9223372036854775808 ≤ p ∧ p ≤ 9223372036854775807) :
    Calls Try.prog 10 #[.int .i64 a, .int .i64 b, .int .i64 p] w fun e w' => e = .returned (.bool true) ∧ Below w.heap.size w w' := by
  by_cases h : FracI a b p
  · obtain ⟨P, rfl, hf⟩ := h.frc
    by_cases h1 : b = 1 ∧ 0 ≤ a
    · exact liftPlaces_one a b P h hf h1.1 h1.2 w
    · by_cases h2 : a = -b
      · exact liftPlaces_neg a b P h hf h2 w
      · exact liftPlaces_else a b P h hf h1 h2 w
  · exact liftPlaces_bad a b p h w
end Go.Proofs.Ytdkobkghhnccgaa
