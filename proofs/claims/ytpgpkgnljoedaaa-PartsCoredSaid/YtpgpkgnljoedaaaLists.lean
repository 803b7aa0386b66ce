/- The walk of PartsLists. -/
import Derived.Test.YtpgpkgnljoedaaaRl
namespace Go.Proofs.Ytpgpkgnljoedaaa
open Go.RowKit

set_option maxRecDepth 100000 in
set_option maxHeartbeats 2000000 in
theorem rList_any (n : Nat) (hn : n ≤ 20) (w : World) :
    Calls Try.prog 20 #[.int .i64 n] w fun e w' => ∃ v, e = .returned v ∧ IntsL w' v (allp n) ∧ Below w.heap.size w w' := by
  have HS := Lib.hid (prt_size n hn)
  go_enter Try.func20, Try.ntmps20
  go_wp2_with fail
  refine (rlist_any n n n (Nat.le_refl _) (by omega) (by omega) _ [] _ (Beg.nil _) (by simp; omega) (by have := HS.out; omega)).mono ?_
  rintro e w1 ⟨v, vs, rfl, hrow, helt, _, hb⟩
  simp only [List.nil_append, List.map_id'] at hrow helt
  have HI := Lib.hid (intsL_of_own hrow helt (by have := HS.out; omega))
  clear hrow helt
  go_wp2_with fail
  go_ret
  exact ⟨_, rfl, HI.out, hb⟩

set_option maxRecDepth 100000 in
set_option maxHeartbeats 4000000 in
theorem partsLists_ok (n : Nat) (hn : n ≤ 20) (w : World) :
    Calls Try.prog 3 #[.int .i64 n] w fun e w' => e = .returned (.bool true) ∧ Below w.heap.size w w' := by
  have d1 : decide (20 < n) = false := decide_eq_false (by omega)
  have d2 : decide (400 < n) = false := decide_eq_false (by omega)
  go_enter Try.func3, Try.ntmps3
  go_wp2_with fail
  refine (List_ok n hn _).mono ?_
  rintro e w1 ⟨v, rfl, hi, b1⟩
  have HI := Lib.hid hi
  obtain ⟨_, A, c, vs, rfl, _⟩ := hi
  go_wp2_with fail
  refine (Count_ok n (by omega) _).mono ?_
  rintro e w2 ⟨rfl, b2⟩
  have HI2 := Lib.hid (HI.out.keep b2)
  have t2 := b1.trans (b2.mono b1.size)
  clear b1 b2
  go_wp2_with fail
  refine (rList_any n hn _).mono ?_
  rintro e w3 ⟨v3, rfl, hi3, b3⟩
  have HI2 := Lib.hid (HI2.out.keep b3)
  have HI3 := Lib.hid hi3
  have t3 := t2.trans (b3.mono t2.size)
  clear t2 b3 hi3
  go_wp2_with fail
  refine (same_yes _ _ (allp n) _ HI2.out HI3.out).mono ?_
  rintro e w4 ⟨rfl, b4⟩
  have t4 := t3.trans (b4.mono t3.size)
  clear t3 b4
  go_wp2_with fail
  refine (rCount_any n (by omega) _).mono ?_
  rintro e w5 ⟨rfl, b5⟩
  have t5 := t4.trans (b5.mono t4.size)
  clear t4 b5
  go_wp2_with fail
  (with_reducible refine (awake_any _).mono ?_)
  rintro e w6 ⟨rfl, b6⟩
  go_wp2_with fail
  go_ret
  exact ⟨rfl, t5.trans (b6.mono t5.size)⟩
set_option maxRecDepth 100000 in
set_option maxHeartbeats 4000000 in
theorem partsLists_mid (n : Nat) (hn : 20 < n) (hn4 : n ≤ 400) (w : World) :
    Calls Try.prog 3 #[.int .i64 n] w fun e w' => e = .returned (.bool true) ∧ Below w.heap.size w w' := by
  have d1 : decide (20 < n) = true := decide_eq_true (by omega)
  have d2 : decide (400 < n) = false := decide_eq_false (by omega)
  go_enter Try.func3, Try.ntmps3
  go_wp2_with fail
  refine (List_no n (.inr (by omega)) _).mono ?_
  rintro e _ ⟨rfl, rfl⟩
  go_wp2_with fail
  refine (Count_ok n (by omega) _).mono ?_
  rintro e w2 ⟨rfl, t2⟩
  go_wp2_with fail
  refine (rCount_any n (by omega) _).mono ?_
  rintro e w5 ⟨rfl, b5⟩
  have t5 := t2.trans (b5.mono t2.size)
  clear t2 b5
  go_wp2_with fail
  (with_reducible refine (awake_any _).mono ?_)
  rintro e w6 ⟨rfl, b6⟩
  go_wp2_with fail
  go_ret
  exact ⟨rfl, t5.trans (b6.mono t5.size)⟩
set_option maxRecDepth 100000 in
set_option maxHeartbeats 4000000 in
theorem partsLists_big (n : Int) (hn : 400 < n) (w : World) :
    Calls Try.prog 3 #[.int .i64 n] w fun e w' => e = .returned (.bool true) ∧ Below w.heap.size w w' := by
  have d0 : decide (n < 0) = false := decide_eq_false (by omega)
  have d1 : decide (20 < n) = true := decide_eq_true (by omega)
  have d2 : decide (400 < n) = true := decide_eq_true (by omega)
  have HL := Lib.hid (fun V => List_no n (.inr (by omega)) V)
  have HC := Lib.hid (fun V => Count_no n (.inr (by omega)) V)
  go_enter Try.func3, Try.ntmps3
  go_wp2_with fail
  refine (HL.out _).mono ?_
  rintro e _ ⟨rfl, rfl⟩
  go_wp2_with fail
  refine (HC.out _).mono ?_
  rintro e _ ⟨rfl, rfl⟩
  go_wp2_with fail
  (with_reducible refine (awake_any _).mono ?_)
  rintro e w6 ⟨rfl, b6⟩
  go_wp2_with fail
  go_ret
  exact ⟨rfl, b6⟩
set_option maxRecDepth 100000 in
set_option maxHeartbeats 4000000 in
theorem partsLists_neg (n : Int) (hn : n < 0) (w : World) :
    Calls Try.prog 3 #[.int .i64 n] w fun e w' => e = .returned (.bool true) ∧ Below w.heap.size w w' := by
  have d0 : decide (n < 0) = true := decide_eq_true (by omega)
  have HL := Lib.hid (fun V => List_no n (.inl hn) V)
  have HC := Lib.hid (fun V => Count_no n (.inl hn) V)
  go_enter Try.func3, Try.ntmps3
  go_wp2_with fail
  refine (HL.out _).mono ?_
  rintro e _ ⟨rfl, rfl⟩
  go_wp2_with fail
  refine (HC.out _).mono ?_
  rintro e _ ⟨rfl, rfl⟩
  go_wp2_with fail
  (with_reducible refine (awake_any _).mono ?_)
  rintro e w6 ⟨rfl, b6⟩
  go_wp2_with fail
  go_ret
  exact ⟨rfl, b6⟩
/-- The walk of the law. -/
theorem partsLists_walk (w : World) (n : Int) (_ : -9223372036854775808 ≤ n ∧ n ≤ 9223372036854775807) :
    Calls Try.prog 3 #[.int .i64 n] w fun e w' => e = .returned (.bool true) ∧ Below w.heap.size w w' := by
  by_cases h1 : n < 0
  · exact partsLists_neg n h1 w
  · by_cases h2 : 400 < n
    · exact partsLists_big n h2 w
    · obtain ⟨m, rfl⟩ := Int.eq_ofNat_of_zero_le (show 0 ≤ n by omega)
      by_cases h3 : m ≤ 20
      · exact partsLists_ok m h3 w
      · exact partsLists_mid m (by omega) (by omega) w
end Go.Proofs.Ytpgpkgnljoedaaa
