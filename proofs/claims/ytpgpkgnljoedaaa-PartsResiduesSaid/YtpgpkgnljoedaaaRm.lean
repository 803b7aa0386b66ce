/- Plain mathematics for PartsResidues: how many of a list have each residue. -/
import Derived.Test.YtpgpkgnljoedaaaSh
import Derived.Test.YtpgpkgnljoedaaaLi
namespace Go.Proofs.Ytpgpkgnljoedaaa
/-- how many of L have the residue j -/
def cntR (rs : List Int) (m : Int) (j : Int) : Nat := (rs.filter (fun r => r % m == j)).length
def resOk (m : Nat) (L : List (List Int)) : Bool :=
  let cs := L.map crk
  let rs := L.map rk
  (List.range m).all fun j => cntR cs m j == cntR cs m 0 && (m != 5 || cntR rs m j == cntR rs m 0)
set_option maxHeartbeats 0 in
theorem res5 : ∀ n, n ≤ 20 → n % 5 = 4 → resOk 5 (allp n) = true := by decide +kernel
set_option maxHeartbeats 0 in
theorem res7 : ∀ n, n ≤ 20 → n % 7 = 5 → resOk 7 (allp n) = true := by decide +kernel
set_option maxHeartbeats 0 in
theorem res11 : ∀ n, n ≤ 20 → n % 11 = 6 → resOk 11 (allp n) = true := by decide +kernel
end Go.Proofs.Ytpgpkgnljoedaaa
