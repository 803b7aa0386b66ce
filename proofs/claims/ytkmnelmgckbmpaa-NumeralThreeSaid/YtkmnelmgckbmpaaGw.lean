/- Walks: Points of the reference; Gaps of the program outside its domain. -/
import Derived.Test.YtkmnelmgckbmpaaGv
namespace Go.Proofs.Ytkmnelmgckbmpaa
open Go.RowKit
theorem Pts.nat {p m n : Int} (h : Pts p m n) : ∃ p' m' n' : Nat, p = p' ∧ m = m' ∧ n = n' ∧ 2 ≤ m' ∧ m' ≤ 1000 ∧ 1 ≤ p' ∧ p' < m' ∧ 1 ≤ n' ∧ n' ≤ m' ∧ Nat.gcd p' m' = 1 := by
  obtain ⟨h1, h2, h3, h4, h5, h6, h7⟩ := h
  refine ⟨p.toNat, m.toNat, n.toNat, by omega, by omega, by omega, by omega, by omega, by omega, by omega, by omega, by omega, ?_⟩
  rw [Int.gcd_eq_natAbs_gcd_natAbs] at h7
  rwa [show p.toNat = p.natAbs by omega, show m.toNat = m.natAbs by omega]
set_option maxHeartbeats 4000000 in
theorem rPoints_yes (p m n : Nat) (h1 : 2 ≤ m) (h2 : m ≤ 1000) (h3 : 1 ≤ p) (h4 : p < m) (h5 : 1 ≤ n) (h6 : n ≤ m) (h7 : Nat.gcd p m = 1) (w : World) :
    Calls Try.prog 6 #[.int .i64 p, .int .i64 m, .int .i64 n] w fun e w' => e = .returned (.bool true) ∧ Below w.heap.size w w' := by
  have HG := Lib.hid (fun W => rGcd_any p m (by omega) (by omega) W)
  rw [h7] at HG
  have e0 : decide ((2 : Int) ≤ (m : Int)) = true := decide_eq_true (by omega)
  have e1 : decide ((m : Int) ≤ 1000) = true := decide_eq_true (by omega)
  have e2 : decide ((1 : Int) ≤ (p : Int)) = true := decide_eq_true (by omega)
  have e3 : decide (p < m) = true := decide_eq_true (by omega)
  have e4 : decide ((1 : Int) ≤ (n : Int)) = true := decide_eq_true (by omega)
  have e5 : decide (n ≤ m) = true := decide_eq_true (by omega)
  clear h7
  go_enter Try.func6, Try.ntmps6
  go_wp2_with fail
  with_reducible refine (HG.out _).mono ?_
  rintro e w1 ⟨rfl, hb⟩
  have HB := Lib.hid hb
  clear hb
  go_wp2_with fail
  go_ret
  exact ⟨rfl, HB.out⟩
set_option maxHeartbeats 4000000 in
theorem rPoints_no (p m n : Int) (h : ¬ Pts p m n) (w : World) :
    Calls Try.prog 6 #[.int .i64 p, .int .i64 m, .int .i64 n] w fun e w' => e = .returned (.bool false) ∧ Below w.heap.size w w' := by
  by_cases c0 : ¬ (2 ≤ m)
  · have e0 : decide (2 ≤ m) = false := decide_eq_false (by omega)
    clear h
    go_enter Try.func6, Try.ntmps6
    go_wp2_with fail
    go_ret
    exact ⟨rfl, Below.refl _ _⟩
  have e0 : decide (2 ≤ m) = true := decide_eq_true (by omega)
  by_cases c1 : ¬ (m ≤ 1000)
  · have e1 : decide (m ≤ 1000) = false := decide_eq_false (by omega)
    clear h
    go_enter Try.func6, Try.ntmps6
    go_wp2_with fail
    go_ret
    exact ⟨rfl, Below.refl _ _⟩
  have e1 : decide (m ≤ 1000) = true := decide_eq_true (by omega)
  by_cases c2 : ¬ (1 ≤ p)
  · have e2 : decide (1 ≤ p) = false := decide_eq_false (by omega)
    clear h
    go_enter Try.func6, Try.ntmps6
    go_wp2_with fail
    go_ret
    exact ⟨rfl, Below.refl _ _⟩
  have e2 : decide (1 ≤ p) = true := decide_eq_true (by omega)
  by_cases c3 : ¬ (p < m)
  · have e3 : decide (p < m) = false := decide_eq_false (by omega)
    clear h
    go_enter Try.func6, Try.ntmps6
    go_wp2_with fail
    go_ret
    exact ⟨rfl, Below.refl _ _⟩
  have e3 : decide (p < m) = true := decide_eq_true (by omega)
  obtain ⟨p', rfl⟩ : ∃ k : Nat, p = k := ⟨p.toNat, by omega⟩
  obtain ⟨m', rfl⟩ : ∃ k : Nat, m = k := ⟨m.toNat, by omega⟩
  have HG := Lib.hid (fun W => rGcd_any p' m' (by omega) (by omega) W)
  by_cases cg : ¬ Nat.gcd p' m' = 1
  · have eg : (((Nat.gcd p' m' : Nat) : Int) == 1) = false := by rw [beq_eq_false_iff_ne]; omega
    generalize Nat.gcd p' m' = gg at *
    clear h cg
    go_enter Try.func6, Try.ntmps6
    go_wp2_with fail
    with_reducible refine (HG.out _).mono ?_
    rintro e w1 ⟨rfl, hb⟩
    have HB := Lib.hid hb
    clear hb
    go_wp2_with fail
    go_ret
    exact ⟨rfl, HB.out⟩
  have cg := Classical.not_not.1 cg
  have eg : (((Nat.gcd p' m' : Nat) : Int) == 1) = true := by rw [beq_iff_eq]; omega
  by_cases c5 : ¬ (1 ≤ n)
  · have e5 : decide (1 ≤ n) = false := decide_eq_false (by omega)
    have HGX := cg
    generalize Nat.gcd p' m' = gg at *
    clear h
    go_enter Try.func6, Try.ntmps6
    go_wp2_with fail
    with_reducible refine (HG.out _).mono ?_
    rintro e w1 ⟨rfl, hb⟩
    have HB := Lib.hid hb
    clear hb
    go_wp2_with fail
    go_ret
    exact ⟨rfl, HB.out⟩
  have e5 : decide (1 ≤ n) = true := decide_eq_true (by omega)
  by_cases c6 : ¬ (n ≤ (m' : Int))
  · have e6 : decide (n ≤ (m' : Int)) = false := decide_eq_false (by omega)
    have HGX := cg
    generalize Nat.gcd p' m' = gg at *
    clear h
    go_enter Try.func6, Try.ntmps6
    go_wp2_with fail
    with_reducible refine (HG.out _).mono ?_
    rintro e w1 ⟨rfl, hb⟩
    have HB := Lib.hid hb
    clear hb
    go_wp2_with fail
    go_ret
    exact ⟨rfl, HB.out⟩
  exact absurd ⟨by omega, by omega, by omega, by omega, by omega, by omega, by rw [Int.gcd_eq_natAbs_gcd_natAbs]; simpa using cg⟩ h
set_option maxHeartbeats 4000000 in
theorem Gaps_no (p m n : Int) (h : ¬ Pts p m n) (w : World) :
    Calls Try.prog 5 #[.int .i64 p, .int .i64 m, .int .i64 n] w fun e w' => e = .returned (.tuple #[.slice none 0 0, .int .i64 2]) ∧ Below w.heap.size w w' := by
  by_cases c0 : ¬ (2 ≤ m)
  · have e0 : decide (m < 2) = true := decide_eq_true (by omega)
    clear h
    go_enter Try.func5, Try.ntmps5
    go_wp2_with fail
    go_ret2
    exact ⟨rfl, Below.refl _ _⟩
  have e0 : decide (m < 2) = false := decide_eq_false (by omega)
  by_cases c1 : ¬ (m ≤ 1000)
  · have e1 : decide (1000 < m) = true := decide_eq_true (by omega)
    clear h
    go_enter Try.func5, Try.ntmps5
    go_wp2_with fail
    go_ret2
    exact ⟨rfl, Below.refl _ _⟩
  have e1 : decide (1000 < m) = false := decide_eq_false (by omega)
  by_cases c2 : ¬ (1 ≤ p)
  · have e2 : decide (p < 1) = true := decide_eq_true (by omega)
    clear h
    go_enter Try.func5, Try.ntmps5
    go_wp2_with fail
    go_ret2
    exact ⟨rfl, Below.refl _ _⟩
  have e2 : decide (p < 1) = false := decide_eq_false (by omega)
  by_cases c3 : ¬ (p < m)
  · have e3 : decide (m ≤ p) = true := decide_eq_true (by omega)
    clear h
    go_enter Try.func5, Try.ntmps5
    go_wp2_with fail
    go_ret2
    exact ⟨rfl, Below.refl _ _⟩
  have e3 : decide (m ≤ p) = false := decide_eq_false (by omega)
  by_cases c4 : ¬ (1 ≤ n)
  · have e4 : decide (n < 1) = true := decide_eq_true (by omega)
    clear h
    go_enter Try.func5, Try.ntmps5
    go_wp2_with fail
    go_ret2
    exact ⟨rfl, Below.refl _ _⟩
  have e4 : decide (n < 1) = false := decide_eq_false (by omega)
  by_cases c5 : ¬ (n ≤ m)
  · have e5 : decide (m < n) = true := decide_eq_true (by omega)
    clear h
    go_enter Try.func5, Try.ntmps5
    go_wp2_with fail
    go_ret2
    exact ⟨rfl, Below.refl _ _⟩
  have e5 : decide (m < n) = false := decide_eq_false (by omega)
  obtain ⟨p', rfl⟩ : ∃ k : Nat, p = k := ⟨p.toNat, by omega⟩
  obtain ⟨m', rfl⟩ : ∃ k : Nat, m = k := ⟨m.toNat, by omega⟩
  have HG := Lib.hid (fun W => gcd_any p' m' (by omega) (by omega) W)
  by_cases cg : ¬ Nat.gcd p' m' = 1
  · have eg : (((Nat.gcd p' m' : Nat) : Int) != 1) = true := by rw [bne_iff_ne]; omega
    generalize Nat.gcd p' m' = gg at *
    clear h cg
    go_enter Try.func5, Try.ntmps5
    go_wp2_with fail
    with_reducible refine (HG.out _).mono ?_
    rintro e w1 ⟨rfl, hb⟩
    have HB := Lib.hid hb
    clear hb
    go_wp2_with fail
    go_ret2
    exact ⟨rfl, HB.out⟩
  have cg := Classical.not_not.1 cg
  exact absurd ⟨by omega, by omega, by omega, by omega, by omega, by omega, by rw [Int.gcd_eq_natAbs_gcd_natAbs]; simpa using cg⟩ h
end Go.Proofs.Ytkmnelmgckbmpaa
