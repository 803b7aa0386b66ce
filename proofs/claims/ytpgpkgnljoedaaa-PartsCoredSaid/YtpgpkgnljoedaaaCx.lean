/- Mathematics of PartsCored: counting hooks row by row. -/
import Derived.Test.YtpgpkgnljoedaaaCe
import Derived.Test.YtpgpkgnljoedaaaCi
namespace Go.Proofs.Ytpgpkgnljoedaaa
open Go.RowKit
theorem hooksLen (l : List Int) : (hooks l).length = l.length := hkAll_length _ _
theorem hooksGet (l : List Int) (i : Nat) (h : i < l.length) : (hooks l).getD i [] = hkRow l i (l.getD i 0).toNat := by
  have : (hooks l)[i]? = some (hkRow l i (l.getD i 0).toNat) := by simp [hooks, hkAll, h]
  rw [List.getD_eq_getElem?_getD, this]; rfl
theorem hkGet (l : List Int) (i k j : Nat) (h : j < k) : (hkRow l i k)[j]? = some (hook l i j) := by simp [hkRow, h]
/-- a row of the table of hooks in memory -/
theorem hookRow {w : World} {v : Value} {l : List Int} (h : IntsL w v (hooks l)) (hp : Part l) (m : Nat) (hm : m < l.length) :
    ∃ ad c A' c' y, v = .slice (some ad) (hooks l).length c ∧ l.getD m 0 = (y : Nat) ∧ w.cell? (ad.add m) = some (.slice (some A') y c') ∧ y ≤ 30 ∧ 1 ≤ y ∧ ∀ k, k < y → w.cell? (A'.add k) = some (.int .i64 (hook l m k)) := by
  obtain ⟨ad, c, s, hv, _, hc, hi, _⟩ := h.get (k := m) (by rw [hooksLen]; exact hm)
  rw [hooksGet l m hm] at hi
  obtain ⟨y, hy⟩ := Int.eq_ofNat_of_zero_le (show 0 ≤ l.getD m 0 by have := (hp.at m hm).1; omega)
  have hy1 : 1 ≤ y := by have := (hp.at m hm).1; omega
  have hy30 : y ≤ 30 := by have := (hp.at m hm).2; omega
  rw [show (l.getD m 0).toNat = y by omega] at hi
  obtain ⟨_, A, c', rfl, _, hr⟩ := hi
  rw [hkRow_length] at hc hr
  obtain ⟨A', rfl, _, hcell⟩ := hr (by omega)
  exact ⟨ad, c, A', c', y, hv, hy, hc, hy30, hy1, fun k hk => hcell k _ (hkGet l m y k hk)⟩
theorem hookPos {l : List Int} (h : Part l) (i j : Nat) (hi : i < l.length) (hj : (j : Int) < l.getD i 0) : 1 ≤ hook l i j ∧ hook l i j ≤ 1000 := by
  refine ⟨hook_pos h i j hi hj, ?_⟩
  unfold hook
  have := (h.at i hi).2
  have := cn_le l j l.length
  have := h.len
  omega
theorem row_cnt (P : Int → Bool) (l : List Int) (m k : Nat) : (hkRow l m (k + 1)).countP P = (hkRow l m k).countP P + if P (hook l m k) then 1 else 0 := by
  rw [hkRow_succ, List.countP_append, List.countP_singleton]
theorem all_cnt (P : Int → Bool) (l : List Int) (m : Nat) : cntP P (hkAll l (m + 1)) = cntP P (hkAll l m) + (hkRow l m (l.getD m 0).toNat).countP P := by
  rw [hkAll_succ]; unfold cntP; simp
theorem row_le (P : Int → Bool) (l : List Int) (m k : Nat) : (hkRow l m k).countP P ≤ k := by
  have := List.countP_le_length (p := P) (l := hkRow l m k)
  rwa [hkRow_length] at this
theorem all_le (P : Int → Bool) {l : List Int} (h : Part l) : ∀ m, m ≤ l.length → cntP P (hkAll l m) ≤ 30 * m := by
  intro m
  induction m with
  | zero => intro _; simp [cntP, hkAll]
  | succ m ih =>
    intro hm
    rw [all_cnt]
    have := ih (by omega)
    have := row_le P l m (l.getD m 0).toNat
    have := (h.at m (by omega)).2
    omega
theorem cnt_zero_row {P : Int → Bool} {l : List Int} (h : cntP P (hooks l) = 0) : ∀ m, m < l.length → ∀ k : Nat, (k : Int) < l.getD m 0 → P (hook l m k) = false := by
  intro m hm k hk
  unfold cntP at h
  have h1 := List.sum_eq_zero_iff_forall_eq_nat.1 h ((hkRow l m (l.getD m 0).toNat).countP P) (List.mem_map.2 ⟨_, by
    unfold hooks hkAll; exact List.mem_map.2 ⟨m, List.mem_range.2 hm, rfl⟩, rfl⟩)
  rw [List.countP_eq_zero] at h1
  have := h1 (hook l m k) (List.mem_map.2 ⟨k, List.mem_range.2 (by omega), rfl⟩)
  simpa using this
end Go.Proofs.Ytpgpkgnljoedaaa
