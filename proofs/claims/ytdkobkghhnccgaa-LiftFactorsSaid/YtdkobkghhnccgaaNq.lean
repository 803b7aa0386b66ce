/- Walk of LiftFactors, joined. -/
import Derived.Test.YtdkobkghhnccgaaNn
import Derived.Test.YtdkobkghhnccgaaNo
namespace Go.Proofs.Ytdkobkghhnccgaa
open Go.RowKit
open Np (frc Red ord Prm fle flt cf nz od Sides Sd Pg slopes)
theorem liftFactors_walk (w : World) (v1 : Value) (f : List Int) (h1 : Ints w v1 f) (_ : ∀ n ∈ f, -9223372036854775808 ≤ n ∧ n ≤ 9223372036854775807) (v2 : Value) (g : List Int) (h2 : Ints w v2 g) (_ : ∀ n ∈ g, -9223372036854775808 ≤ n ∧ n ≤ 9223372036854775807) (p : Int) (_ : -9223372036854775808 ≤ p ∧ p ≤ 9223372036854775807) (by' : Int) (_ : -9223372036854775808 ≤ by' ∧ by' ≤ 9223372036854775807) :
    Calls Try.prog 13 #[v1, v2, .int .i64 p, .int .i64 by'] w fun e w' => e = .returned (.bool true) ∧ Below w.heap.size w w' := by
  by_cases h : Poly f ∧ PrimeI p
  · obtain ⟨P, rfl, hP⟩ := h.2.nat
    by_cases hg : Poly g
    · by_cases ht : Poly (times f g)
      · exact factors_yes v1 v2 f g P by' w h1 h2 h.1 hP hg ht
      · exact factors_not v1 v2 f g P by' w h1 h2 h.1 hP hg ht
    · exact factors_half v1 v2 f g P by' w h1 h2 h.1 hP hg
  · exact factors_out v1 v2 f g p by' w h1 h2 h
end Go.Proofs.Ytdkobkghhnccgaa
