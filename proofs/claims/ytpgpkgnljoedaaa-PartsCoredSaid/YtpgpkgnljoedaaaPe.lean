/- The walk of PartsPentagons. -/
import Derived.Test.YtpgpkgnljoedaaaPn
namespace Go.Proofs.Ytpgpkgnljoedaaa
open Go.RowKit

/-- the two pentagonal numbers of j -/
def gp (j : Nat) : Nat → Nat
  | 0 => j * (3 * j - 1) / 2
  | _ => j * (3 * j + 1) / 2
def sg (j : Nat) : Int := 2 * ((j : Int) % 2) - 1
/-- a term of Euler's recurrence -/
def tm (n j i : Nat) : Int := if gp j i ≤ n then ((V yes (n - gp j i) (n - gp j i) : Nat) : Int) * sg j else 0
/-- the sum of all terms up to J, and of the first i of J + 1 -/
def SS (n : Nat) : Nat → Int
  | 0 => 0
  | J + 1 => SS n J + tm n (J + 1) 0 + tm n (J + 1) 1
def SI (n J : Nat) : Nat → Int
  | 0 => SS n J
  | i + 1 => SI n J i + tm n (J + 1) i
theorem SI_two (n J : Nat) : SI n J 2 = SS n (J + 1) := rfl
theorem sg_bd (j : Nat) : sg j = 1 ∨ sg j = -1 := by unfold sg; omega
theorem gp_le (j k : Nat) (h : j ≤ k) : gp j 0 ≤ gp k 0 := by
  unfold gp
  exact Nat.div_le_div_right (Nat.mul_le_mul h (by omega))
theorem gp_01 (j : Nat) : gp j 0 ≤ gp j 1 := by
  unfold gp
  exact Nat.div_le_div_right (Nat.mul_le_mul (Nat.le_refl _) (by omega))
theorem SS_stop (n J : Nat) (h : n < gp (J + 1) 0) : ∀ K, J ≤ K → SS n K = SS n J := by
  intro K
  induction K with
  | zero => intro hk; obtain rfl : J = 0 := by omega
            rfl
  | succ K ih =>
    intro hk
    by_cases e : J = K + 1
    · subst e; rfl
    · have h1 := gp_le (J + 1) (K + 1) (by omega)
      have h2 := gp_01 (K + 1)
      have t0 : tm n (K + 1) 0 = 0 := if_neg (by omega)
      have t1 : tm n (K + 1) 1 = 0 := if_neg (by omega)
      rw [SS, t0, t1, ih (by omega)]
      omega
/-- the same over a table -/
def tmT (t : List Nat) (n j i : Nat) : Int := if gp j i ≤ n then ((t.getD (n - gp j i) 0 : Nat) : Int) * sg j else 0
def SST (t : List Nat) (n : Nat) : Nat → Int
  | 0 => 0
  | J + 1 => SST t n J + tmT t n (J + 1) 0 + tmT t n (J + 1) 1
theorem SST_eq (n J : Nat) (hn : n ≤ 400) : SST ptab n J = SS n J := by
  have e : ∀ j i, tmT ptab n j i = tm n j i := by
    intro j i
    unfold tmT tm
    by_cases h : gp j i ≤ n
    · rw [if_pos h, if_pos h, List.getD_eq_getElem?_getD, ptab_get _ (by omega)]; rfl
    · rw [if_neg h, if_neg h]
  induction J with
  | zero => rfl
  | succ J ih => rw [SST, SS, ih, e, e]
def eulerOk (t : List Nat) : Bool := (List.range 400).all fun m => SST t (m + 1) 16 == ((t.getD (m + 1) 0 : Nat) : Int)
theorem euler_all : eulerOk ptab = true := by decide +kernel
theorem euler (n : Nat) (h1 : 1 ≤ n) (hn : n ≤ 400) : SS n 16 = (V yes n n : Nat) := by
  have h := List.all_eq_true.1 euler_all (n - 1) (by simp; omega)
  simp only [beq_iff_eq] at h
  rw [show n - 1 + 1 = n by omega, SST_eq n 16 hn, List.getD_eq_getElem?_getD, ptab_get n hn] at h
  exact h
/-- the signs, as a table -/
def rowE (m : Nat) : Nat → List Int
  | 0 => (List.range (m + 1)).map (fun j => if j = 0 then 1 else 0)
  | p + 1 => List.zipWith (· - ·) (rowE m p) (List.replicate (p + 1) 0 ++ rowE m p)
theorem rowE_get (m : Nat) : ∀ p, (rowE m p).length = m + 1 ∧ ∀ i, i < m + 1 → (rowE m p)[i]? = some (En p i) := by
  intro p
  induction p with
  | zero => exact ⟨by simp [rowE], fun i hi => by simp [rowE, En, hi]⟩
  | succ p ih =>
    refine ⟨by rw [rowE, List.length_zipWith, List.length_append, List.length_replicate, ih.1]; omega, fun i hi => ?_⟩
    rw [rowE, List.getElem?_zipWith, ih.2 i hi]
    by_cases h : p + 1 ≤ i
    · rw [List.getElem?_append_right (by simp; omega), List.length_replicate, ih.2 _ (by omega), En_step p i h]
    · rw [List.getElem?_append_left (by simp; omega), En_low p i (by omega)]
      simp [show i < p + 1 by omega]
theorem En_stop (j : Nat) : ∀ p, j ≤ p → En p j = En j j := by
  intro p
  induction p with
  | zero =>
    intro h
    obtain rfl : j = 0 := by omega
    rfl
  | succ p ih =>
    intro h
    by_cases e : j = p + 1
    · subst e; rfl
    · rw [En_low p j (by omega), ih (by omega)]
def pentOk (t : List Int) : Bool := (List.range 17).all fun j => (List.range 2).all fun i => decide (100 < gp j i) || decide (j = 0) || (t.getD (gp j i) 0 == 1 - 2 * ((j : Int) % 2))
theorem pent_all : pentOk (rowE 100 100) = true := by decide +kernel
theorem pent_gp (j i : Nat) (h1 : 1 ≤ j) (hj : j < 17) (hi : i < 2) (h : gp j i ≤ 100) : En (gp j i) (gp j i) = 1 - 2 * ((j : Int) % 2) := by
  have hh := List.all_eq_true.1 (List.all_eq_true.1 pent_all j (by simpa using hj)) i (by simpa using hi)
  simp only [Bool.or_eq_true, decide_eq_true_eq, beq_iff_eq] at hh
  rcases hh with (hh | hh) | hh
  · omega
  · omega
  · rw [List.getD_eq_getElem?_getD, (rowE_get 100 100).2 _ (by omega), En_stop _ 100 h] at hh
    exact hh
end Go.Proofs.Ytpgpkgnljoedaaa
