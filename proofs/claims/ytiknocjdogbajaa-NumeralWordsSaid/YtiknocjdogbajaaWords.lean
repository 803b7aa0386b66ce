/- The walk of NumeralWords. -/
import Derived.Test.YtiknocjdogbajaaS
namespace Go.Proofs.Ytiknocjdogbajaa
open Go.RowKit

set_option maxHeartbeats 1000000 in
theorem words_no1 (w : World) (n : Int) (hn : n < 0) :
    Calls Try.prog 4 #[.int .i64 n] w fun e w' => e = .returned (.bool true) ∧ Below w.heap.size w w' := by
  have hd : decide (n < 0) = true := by simpa using hn
  go_enter Try.func4, Try.ntmps4
  go_wp2_with fail
  refine (Word_no n (.inl hn) _).mono ?_
  rintro e w1 ⟨rfl, hb1⟩
  go_wp2_with fail
  refine (awake_any _).mono ?_
  rintro e w2 ⟨rfl, hb2⟩
  go_wp2
  go_ret
  exact ⟨rfl, hb1.trans (hb2.mono hb1.size)⟩
set_option maxHeartbeats 1000000 in
theorem words_no2 (w : World) (n : Int) (hn : 2000 < n) :
    Calls Try.prog 4 #[.int .i64 n] w fun e w' => e = .returned (.bool true) ∧ Below w.heap.size w w' := by
  have hd : decide (n < 0) = false := by simp; omega
  have hd2 : decide (2000 < n) = true := by simpa using hn
  go_enter Try.func4, Try.ntmps4
  go_wp2_with fail
  refine (Word_no n (.inr hn) _).mono ?_
  rintro e w1 ⟨rfl, hb1⟩
  go_wp2_with fail
  refine (awake_any _).mono ?_
  rintro e w2 ⟨rfl, hb2⟩
  go_wp2
  go_ret
  exact ⟨rfl, hb1.trans (hb2.mono hb1.size)⟩
set_option maxHeartbeats 1000000 in
theorem words_yes (w : World) (n : Nat) (hn : n ≤ 2000) :
    Calls Try.prog 4 #[.int .i64 n] w fun e w' => e = .returned (.bool true) ∧ Below w.heap.size w w' := by
  have hd2 : decide (2000 < n) = false := by simp; omega
  go_enter Try.func4, Try.ntmps4
  go_wp2_with fail
  refine (Word_yes n hn _).mono ?_
  rintro e w1 ⟨rfl, hb1⟩
  go_wp2_with fail
  refine (rWord_any n hn _).mono ?_
  rintro e w2 ⟨rfl, hb2⟩
  go_wp2_with fail
  refine (awake_any _).mono ?_
  rintro e w3 ⟨rfl, hb3⟩
  go_wp2
  go_ret
  exact ⟨rfl, (hb1.trans (hb2.mono hb1.size)).trans (hb3.mono (hb1.trans (hb2.mono hb1.size)).size)⟩
theorem numeralWords_walk (w : World) (a0 : Int) (_hw : -9223372036854775808 ≤ a0 ∧ a0 ≤ 9223372036854775807) :
    Calls Try.prog 4 #[.int .i64 a0] w fun e w' => e = .returned (.bool true) ∧ Below w.heap.size w w' := by
  by_cases h0 : a0 < 0
  · exact words_no1 w a0 h0
  · by_cases h1 : 2000 < a0
    · exact words_no2 w a0 h1
    · obtain ⟨n, rfl⟩ := Int.eq_ofNat_of_zero_le (show 0 ≤ a0 by omega)
      exact words_yes w n (by omega)
end Go.Proofs.Ytiknocjdogbajaa
