/- Residues that are their own p-th power: a finite check of all powers up to 20000. -/
import Derived.Test.YtdkobkghhnccgaaM
namespace Go.Proofs.Ytdkobkghhnccgaa
set_option linter.unusedVariables false
/-- x^n modulo m as the program reckons it -/
def pwm (x m : Nat) : Nat → Nat
  | 0 => 1 % m
  | n + 1 => pwm x m n * x % m
def itT (p m : Nat) (r : Nat) : Nat → Nat
  | 0 => r
  | k + 1 => pwm (itT p m r k) m p
def teich (p k r : Nat) : Nat := itT p (pn p k) r k
/-- no number before the i-th above r is its own power -/
def noneB (p q r : Nat) : Nat → Bool
  | 0 => true
  | i + 1 => noneB p q r i && !(pwm (r + i * p) q p == r + i * p)
def teichB (p k : Nat) : Bool := (List.range p).all fun r => (fun T q => T % p == r && pwm T q p == T && decide (T < q) && noneB p q r (T / p)) (teich p k r) (pn p k)
def lettB (p k : Nat) : Bool := (List.range p).all fun r => (List.range p).all fun s => teich p k (r * s % p) == teich p k r * teich p k s % pn p k
def pks : List (Nat × Nat) := [(2, 14), (3, 9), (5, 6), (7, 5), (11, 4), (13, 3)]
set_option maxRecDepth 100000 in
theorem teich_all : pks.all (fun pk => (List.range pk.2).all fun k => teichB pk.1 (k + 1)) = true := by decide +kernel
theorem lett_all : pks.all (fun pk => (List.range pk.2).all fun k => lettB pk.1 (k + 1) && (teich pk.1 (k + 1) 0 == 0) && (teich pk.1 (k + 1) 1 == 1)) = true := by decide +kernel
end Go.Proofs.Ytdkobkghhnccgaa
