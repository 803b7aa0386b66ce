/- The table of the partition numbers, and their bound; no program. -/
import Derived.Test.YtpgpkgnljoedaaaCt
namespace Go.Proofs.Ytpgpkgnljoedaaa
/-- the partition numbers -/
def ptab : List Nat := rowT yes 400 400
theorem ptab_get (i : Nat) (h : i ≤ 400) : ptab[i]? = some (V yes i i) := by
  have := (rowT_get yes 400 400).2 i (by omega)
  rw [V_stop yes i 400 h] at this
  exact this
theorem ptab_bound : ptab.all (fun x => decide (x ≤ 6727090051741041926)) = true := by decide +kernel
theorem V_bound (al : Nat → Bool) (p j : Nat) (hj : j ≤ 400) : V al p j ≤ 6727090051741041926 := by
  have h1 := V_yes al p j
  have h2 : V yes p j ≤ V yes j j := by
    by_cases h : j ≤ p
    · rw [V_stop yes j p h]; exact Nat.le_refl _
    · exact V_mono yes p j j (by omega)
  have h3 := List.all_eq_true.1 ptab_bound _ (List.mem_of_getElem? (ptab_get j hj))
  simp only [decide_eq_true_eq] at h3
  omega
end Go.Proofs.Ytpgpkgnljoedaaa
