/- The walk of NumeralShifts. -/
import Derived.Test.YtiknocjdogbajaaD
namespace Go.Proofs.Ytiknocjdogbajaa
open Go.RowKit

set_option maxHeartbeats 4000000 in
theorem shifts_n (w : World) (a b : Int) (ha : a < 0 ∨ 1000000000000 < a) :
    Calls Try.prog 6 #[.int .i64 a, .int .i64 b] w fun e w' => e = .returned (.bool true) ∧ Below w.heap.size w w' := by
  have HA := Lib.hid ha; clear ha
  go_enter Try.func6, Try.ntmps6
  go_wp2_with fail
  first | (with_reducible refine (Shift_no a HA.out _).mono ?_) | refine (Shift_no a HA.out _).mono ?_
  rintro e w1 ⟨rfl, hb1⟩
  go_wp2_with fail
  first | (with_reducible refine (Circle_no1 a b HA.out _).mono ?_) | refine (Circle_no1 a b HA.out _).mono ?_
  rintro e w2 ⟨rfl, hb2⟩
  go_wp2_with fail
  first | (with_reducible refine (rNumber_no a HA.out _).mono ?_) | refine (rNumber_no a HA.out _).mono ?_
  rintro e _ ⟨rfl, rfl⟩
  go_wp2_with fail
  first | (with_reducible refine (awake_any _).mono ?_) | refine (awake_any _).mono ?_
  rintro e w3 ⟨rfl, hb3⟩
  go_wp2
  go_ret
  exact ⟨rfl, ((hb1.trans (hb2.mono hb1.size)).trans (hb3.mono (hb1.trans (hb2.mono hb1.size)).size))⟩

set_option maxHeartbeats 4000000 in
theorem shifts_yn (w : World) (a : Nat) (b : Int) (ha : a ≤ 1000000000000) (hb : b < 0 ∨ 1000000000000 < b) :
    Calls Try.prog 6 #[.int .i64 a, .int .i64 b] w fun e w' => e = .returned (.bool true) ∧ Below w.heap.size w w' := by
  have HB := Lib.hid hb; clear hb
  go_enter Try.func6, Try.ntmps6
  go_wp2_with fail
  first | (with_reducible refine (Shift_any a ha _).mono ?_) | refine (Shift_any a ha _).mono ?_
  rintro e w1 ⟨rfl, hb1⟩
  go_wp2_with fail
  first | (with_reducible refine (Circle_no2 a ha b HB.out _).mono ?_) | refine (Circle_no2 a ha b HB.out _).mono ?_
  rintro e w2 ⟨rfl, hb2⟩
  go_wp2_with fail
  first | (with_reducible refine (rNumber_yes a (by omega) (by omega) _).mono ?_) | refine (rNumber_yes a (by omega) (by omega) _).mono ?_
  rintro e _ ⟨rfl, rfl⟩
  go_wp2_with fail
  first | (with_reducible refine (rShift_any a ha _).mono ?_) | refine (rShift_any a ha _).mono ?_
  rintro e w3 ⟨rfl, hb3⟩
  go_wp2_with fail
  first | (with_reducible refine (awake_any _).mono ?_) | refine (awake_any _).mono ?_
  rintro e w4 ⟨rfl, hb4⟩
  go_wp2_with fail
  first | (with_reducible refine (rNumber_no b HB.out _).mono ?_) | refine (rNumber_no b HB.out _).mono ?_
  rintro e _ ⟨rfl, rfl⟩
  go_wp2
  go_ret
  exact ⟨rfl, (((hb1.trans (hb2.mono hb1.size)).trans (hb3.mono (hb1.trans (hb2.mono hb1.size)).size)).trans (hb4.mono ((hb1.trans (hb2.mono hb1.size)).trans (hb3.mono (hb1.trans (hb2.mono hb1.size)).size)).size))⟩

set_option maxHeartbeats 4000000 in
theorem shifts_yy (w : World) (a b : Nat) (ha : a ≤ 1000000000000) (hb : b ≤ 1000000000000) :
    Calls Try.prog 6 #[.int .i64 a, .int .i64 b] w fun e w' => e = .returned (.bool true) ∧ Below w.heap.size w w' := by
  go_enter Try.func6, Try.ntmps6
  go_wp2_with fail
  first | (with_reducible refine (Shift_any a ha _).mono ?_) | refine (Shift_any a ha _).mono ?_
  rintro e w1 ⟨rfl, hb1⟩
  go_wp2_with fail
  first | (with_reducible refine (Circle_any a b ha hb _).mono ?_) | refine (Circle_any a b ha hb _).mono ?_
  rintro e w2 ⟨rfl, hb2⟩
  go_wp2_with fail
  first | (with_reducible refine (rNumber_yes a (by omega) (by omega) _).mono ?_) | refine (rNumber_yes a (by omega) (by omega) _).mono ?_
  rintro e _ ⟨rfl, rfl⟩
  go_wp2_with fail
  first | (with_reducible refine (rShift_any a ha _).mono ?_) | refine (rShift_any a ha _).mono ?_
  rintro e w3 ⟨rfl, hb3⟩
  go_wp2_with fail
  first | (with_reducible refine (awake_any _).mono ?_) | refine (awake_any _).mono ?_
  rintro e w4 ⟨rfl, hb4⟩
  go_wp2_with fail
  first | (with_reducible refine (rNumber_yes b (by omega) (by omega) _).mono ?_) | refine (rNumber_yes b (by omega) (by omega) _).mono ?_
  rintro e _ ⟨rfl, rfl⟩
  go_wp2_with fail
  first | (with_reducible refine (rCircle_any a b ha hb _).mono ?_) | refine (rCircle_any a b ha hb _).mono ?_
  rintro e w5 ⟨rfl, hb5⟩
  go_wp2
  go_ret
  exact ⟨rfl, ((((hb1.trans (hb2.mono hb1.size)).trans (hb3.mono (hb1.trans (hb2.mono hb1.size)).size)).trans (hb4.mono ((hb1.trans (hb2.mono hb1.size)).trans (hb3.mono (hb1.trans (hb2.mono hb1.size)).size)).size)).trans (hb5.mono (((hb1.trans (hb2.mono hb1.size)).trans (hb3.mono (hb1.trans (hb2.mono hb1.size)).size)).trans (hb4.mono ((hb1.trans (hb2.mono hb1.size)).trans (hb3.mono (hb1.trans (hb2.mono hb1.size)).size)).size)).size))⟩

theorem numeralShifts_walk (w : World) (a : Int) (_ha : -9223372036854775808 ≤ a ∧ a ≤ 9223372036854775807) (b : Int) (_hb : -9223372036854775808 ≤ b ∧ b ≤ 9223372036854775807) :
    Calls Try.prog 6 #[.int .i64 a, .int .i64 b] w fun e w' => e = .returned (.bool true) ∧ Below w.heap.size w w' := by
  by_cases h0 : 0 ≤ a ∧ a ≤ 1000000000000
  · obtain ⟨n, rfl⟩ := Int.eq_ofNat_of_zero_le h0.1
    by_cases h1 : 0 ≤ b ∧ b ≤ 1000000000000
    · obtain ⟨m, rfl⟩ := Int.eq_ofNat_of_zero_le h1.1
      exact shifts_yy w n m (by omega) (by omega)
    · exact shifts_yn w n b (by omega) (by omega)
  · exact shifts_n w a b (by omega)
end Go.Proofs.Ytiknocjdogbajaa
