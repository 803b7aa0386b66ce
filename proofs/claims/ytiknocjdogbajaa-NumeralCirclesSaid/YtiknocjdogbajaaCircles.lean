/- The walk of NumeralCircles. -/
import Derived.Test.YtiknocjdogbajaaD
namespace Go.Proofs.Ytiknocjdogbajaa
open Go.RowKit

theorem Circle_bad (a b : Int) (h : (a < 0 ∨ 1000000000000 < a) ∨ (b < 0 ∨ 1000000000000 < b)) (w : World) :
    Calls Try.prog 27 #[.int .i64 a, .int .i64 b] w fun e w' => e = .returned (.tuple #[.int .i64 0, .int .i64 2]) ∧ Below w.heap.size w w' := by
  by_cases ha : a < 0 ∨ 1000000000000 < a
  · exact Circle_no1 a b ha w
  · obtain ⟨n, rfl⟩ := Int.eq_ofNat_of_zero_le (show 0 ≤ a by omega)
    exact Circle_no2 n (by omega) b (h.resolve_left ha) w
theorem Circle_ok (a b c : Nat) (ha : a ≤ 1000000000000) (hb : b ≤ 1000000000000) (h : circ (zeck a) (zeck b) = c) (hc : c ≤ 1000000000000) (w : World) :
    Calls Try.prog 27 #[.int .i64 a, .int .i64 b] w fun e w' => e = .returned (.tuple #[.int .i64 c, .int .i64 0]) ∧ Below w.heap.size w w' := by
  have := Circle_any a b ha hb w
  rw [h, tv_yes hc, te_yes hc] at this
  exact this
theorem Circle_big (a b : Nat) (ha : a ≤ 1000000000000) (hb : b ≤ 1000000000000) (h : ¬ circ (zeck a) (zeck b) ≤ 1000000000000) (w : World) :
    Calls Try.prog 27 #[.int .i64 a, .int .i64 b] w fun e w' => e = .returned (.tuple #[.int .i64 0, .int .i64 6]) ∧ Below w.heap.size w w' := by
  have := Circle_any a b ha hb w
  rw [tv_no h, te_no h] at this
  exact this
theorem Circle1_ok (a c : Nat) (ha : a ≤ 1000000000000) (h : circ (zeck 1) (zeck a) = c) (hc : c ≤ 1000000000000) (w : World) :
    Calls Try.prog 27 #[.int .i64 1, .int .i64 a] w fun e w' => e = .returned (.tuple #[.int .i64 c, .int .i64 0]) ∧ Below w.heap.size w w' := Circle_ok 1 a c (by omega) ha h hc w
theorem Circle1_big (a : Nat) (ha : a ≤ 1000000000000) (h : ¬ circ (zeck 1) (zeck a) ≤ 1000000000000) (w : World) :
    Calls Try.prog 27 #[.int .i64 1, .int .i64 a] w fun e w' => e = .returned (.tuple #[.int .i64 0, .int .i64 6]) ∧ Below w.heap.size w w' := Circle_big 1 a (by omega) ha h w
theorem circ_1 (a : Nat) (ha : a ≤ 1000000000000) : circ (zeck 1) (zeck a) = sh a + a := by
  rw [zeck_one, circ_two, vs_zero, zeck_sum a ha]; rfl

set_option maxHeartbeats 4000000 in
theorem circles_bad (w : World) (a b c : Int) (h : (a < 0 ∨ 1000000000000 < a) ∨ (b < 0 ∨ 1000000000000 < b)) (h' : (b < 0 ∨ 1000000000000 < b) ∨ (a < 0 ∨ 1000000000000 < a)) :
    Calls Try.prog 7 #[.int .i64 a, .int .i64 b, .int .i64 c] w fun e w' => e = .returned (.bool true) ∧ Below w.heap.size w w' := by
  have H := Lib.hid h; clear h
  have H' := Lib.hid h'; clear h'
  go_enter Try.func7, Try.ntmps7
  go_wp2_with fail
  first | (with_reducible refine (Circle_bad a b H.out _).mono ?_) | refine (Circle_bad a b H.out _).mono ?_
  rintro e w1 ⟨rfl, hb1⟩
  go_wp2_with fail
  first | (with_reducible refine (Circle_bad b a H'.out _).mono ?_) | refine (Circle_bad b a H'.out _).mono ?_
  rintro e w2 ⟨rfl, hb2⟩
  go_wp2_with fail
  first | (with_reducible refine (awake_any _).mono ?_) | refine (awake_any _).mono ?_
  rintro e w3 ⟨rfl, hb3⟩
  go_wp2
  go_ret
  exact ⟨rfl, ((hb1.trans (hb2.mono hb1.size)).trans (hb3.mono (hb1.trans (hb2.mono hb1.size)).size))⟩

set_option maxHeartbeats 4000000 in
theorem circles_big (w : World) (a b : Nat) (c : Int) (ha : a ≤ 1000000000000) (hb : b ≤ 1000000000000) (h : ¬ circ (zeck a) (zeck b) ≤ 1000000000000) :
    Calls Try.prog 7 #[.int .i64 a, .int .i64 b, .int .i64 c] w fun e w' => e = .returned (.bool true) ∧ Below w.heap.size w w' := by
  have H := Lib.hid h; clear h
  go_enter Try.func7, Try.ntmps7
  go_wp2_with fail
  first | (with_reducible refine (Circle_big a b ha hb H.out _).mono ?_) | refine (Circle_big a b ha hb H.out _).mono ?_
  rintro e w1 ⟨rfl, hb1⟩
  go_wp2_with fail
  first | (with_reducible refine (Circle_big b a hb ha (by rw [circ_comm]; exact H.out) _).mono ?_) | refine (Circle_big b a hb ha (by rw [circ_comm]; exact H.out) _).mono ?_
  rintro e w2 ⟨rfl, hb2⟩
  go_wp2_with fail
  first | (with_reducible refine (awake_any _).mono ?_) | refine (awake_any _).mono ?_
  rintro e w3 ⟨rfl, hb3⟩
  go_wp2
  go_ret
  exact ⟨rfl, ((hb1.trans (hb2.mono hb1.size)).trans (hb3.mono (hb1.trans (hb2.mono hb1.size)).size))⟩

set_option maxHeartbeats 4000000 in
theorem circles_cno_b (w : World) (a b : Nat) (c : Int) (ha : a ≤ 1000000000000) (hb : b ≤ 1000000000000) (x : Nat) (hx : circ (zeck a) (zeck b) = x) (hx1 : x ≤ 1000000000000) (hc : c < 0 ∨ 1000000000000 < c) (hs : 1000000000000 < sh a)  :
    Calls Try.prog 7 #[.int .i64 a, .int .i64 b, .int .i64 c] w fun e w' => e = .returned (.bool true) ∧ Below w.heap.size w w' := by
  have HX := Lib.hid hx; clear hx
  have HC := Lib.hid hc; clear hc
  have HS := Lib.hid hs; clear hs
  go_enter Try.func7, Try.ntmps7
  go_wp2_with fail
  first | (with_reducible refine (Circle_ok a b x ha hb HX.out hx1 _).mono ?_) | refine (Circle_ok a b x ha hb HX.out hx1 _).mono ?_
  rintro e w1 ⟨rfl, hb1⟩
  go_wp2_with fail
  first | (with_reducible refine (Circle_ok b a x hb ha (by rw [circ_comm]; exact HX.out) hx1 _).mono ?_) | refine (Circle_ok b a x hb ha (by rw [circ_comm]; exact HX.out) hx1 _).mono ?_
  rintro e w2 ⟨rfl, hb2⟩
  go_wp2_with fail
  first | (with_reducible refine (Circle_bad x c (.inr HC.out) _).mono ?_) | refine (Circle_bad x c (.inr HC.out) _).mono ?_
  rintro e w3 ⟨rfl, hb3⟩
  go_wp2_with fail
  first | (with_reducible refine (Circle_bad b c (.inr HC.out) _).mono ?_) | refine (Circle_bad b c (.inr HC.out) _).mono ?_
  rintro e w4 ⟨rfl, hb4⟩
  go_wp2_with fail
  first | (with_reducible refine (Circle1_big a ha (by rw [circ_1 a ha]; have := HS.out; omega) _).mono ?_) | refine (Circle1_big a ha (by rw [circ_1 a ha]; have := HS.out; omega) _).mono ?_
  rintro e w5 ⟨rfl, hb5⟩
  go_wp2_with fail
  first | (with_reducible refine (Shift_big a ha HS.out _).mono ?_) | refine (Shift_big a ha HS.out _).mono ?_
  rintro e w6 ⟨rfl, hb6⟩
  go_wp2_with fail
  first | (with_reducible refine (awake_any _).mono ?_) | refine (awake_any _).mono ?_
  rintro e w7 ⟨rfl, hb7⟩
  go_wp2
  go_ret
  exact ⟨rfl, ((((((hb1.trans (hb2.mono hb1.size)).trans (hb3.mono (hb1.trans (hb2.mono hb1.size)).size)).trans (hb4.mono ((hb1.trans (hb2.mono hb1.size)).trans (hb3.mono (hb1.trans (hb2.mono hb1.size)).size)).size)).trans (hb5.mono (((hb1.trans (hb2.mono hb1.size)).trans (hb3.mono (hb1.trans (hb2.mono hb1.size)).size)).trans (hb4.mono ((hb1.trans (hb2.mono hb1.size)).trans (hb3.mono (hb1.trans (hb2.mono hb1.size)).size)).size)).size)).trans (hb6.mono ((((hb1.trans (hb2.mono hb1.size)).trans (hb3.mono (hb1.trans (hb2.mono hb1.size)).size)).trans (hb4.mono ((hb1.trans (hb2.mono hb1.size)).trans (hb3.mono (hb1.trans (hb2.mono hb1.size)).size)).size)).trans (hb5.mono (((hb1.trans (hb2.mono hb1.size)).trans (hb3.mono (hb1.trans (hb2.mono hb1.size)).size)).trans (hb4.mono ((hb1.trans (hb2.mono hb1.size)).trans (hb3.mono (hb1.trans (hb2.mono hb1.size)).size)).size)).size)).size)).trans (hb7.mono (((((hb1.trans (hb2.mono hb1.size)).trans (hb3.mono (hb1.trans (hb2.mono hb1.size)).size)).trans (hb4.mono ((hb1.trans (hb2.mono hb1.size)).trans (hb3.mono (hb1.trans (hb2.mono hb1.size)).size)).size)).trans (hb5.mono (((hb1.trans (hb2.mono hb1.size)).trans (hb3.mono (hb1.trans (hb2.mono hb1.size)).size)).trans (hb4.mono ((hb1.trans (hb2.mono hb1.size)).trans (hb3.mono (hb1.trans (hb2.mono hb1.size)).size)).size)).size)).trans (hb6.mono ((((hb1.trans (hb2.mono hb1.size)).trans (hb3.mono (hb1.trans (hb2.mono hb1.size)).size)).trans (hb4.mono ((hb1.trans (hb2.mono hb1.size)).trans (hb3.mono (hb1.trans (hb2.mono hb1.size)).size)).size)).trans (hb5.mono (((hb1.trans (hb2.mono hb1.size)).trans (hb3.mono (hb1.trans (hb2.mono hb1.size)).size)).trans (hb4.mono ((hb1.trans (hb2.mono hb1.size)).trans (hb3.mono (hb1.trans (hb2.mono hb1.size)).size)).size)).size)).size)).size))⟩

set_option maxHeartbeats 4000000 in
theorem circles_cno_s (w : World) (a b : Nat) (c : Int) (ha : a ≤ 1000000000000) (hb : b ≤ 1000000000000) (x : Nat) (hx : circ (zeck a) (zeck b) = x) (hx1 : x ≤ 1000000000000) (hc : c < 0 ∨ 1000000000000 < c) (hs : sh a ≤ 1000000000000) (hss : sh a + a ≤ 1000000000000)  :
    Calls Try.prog 7 #[.int .i64 a, .int .i64 b, .int .i64 c] w fun e w' => e = .returned (.bool true) ∧ Below w.heap.size w w' := by
  have HX := Lib.hid hx; clear hx
  have HC := Lib.hid hc; clear hc
  have HS := Lib.hid hs; clear hs
  have HT := Lib.hid hss; clear hss
  go_enter Try.func7, Try.ntmps7
  go_wp2_with fail
  first | (with_reducible refine (Circle_ok a b x ha hb HX.out hx1 _).mono ?_) | refine (Circle_ok a b x ha hb HX.out hx1 _).mono ?_
  rintro e w1 ⟨rfl, hb1⟩
  go_wp2_with fail
  first | (with_reducible refine (Circle_ok b a x hb ha (by rw [circ_comm]; exact HX.out) hx1 _).mono ?_) | refine (Circle_ok b a x hb ha (by rw [circ_comm]; exact HX.out) hx1 _).mono ?_
  rintro e w2 ⟨rfl, hb2⟩
  go_wp2_with fail
  first | (with_reducible refine (Circle_bad x c (.inr HC.out) _).mono ?_) | refine (Circle_bad x c (.inr HC.out) _).mono ?_
  rintro e w3 ⟨rfl, hb3⟩
  go_wp2_with fail
  first | (with_reducible refine (Circle_bad b c (.inr HC.out) _).mono ?_) | refine (Circle_bad b c (.inr HC.out) _).mono ?_
  rintro e w4 ⟨rfl, hb4⟩
  go_wp2_with fail
  first | (with_reducible refine (Circle1_ok a (sh a + a) ha (circ_1 a ha) HT.out _).mono ?_) | refine (Circle1_ok a (sh a + a) ha (circ_1 a ha) HT.out _).mono ?_
  rintro e w5 ⟨rfl, hb5⟩
  go_wp2_with fail
  first | (with_reducible refine (Shift_yes a ha HS.out _).mono ?_) | refine (Shift_yes a ha HS.out _).mono ?_
  rintro e w6 ⟨rfl, hb6⟩
  go_wp2_with fail
  first | (with_reducible refine (Shift_val (sh a) (sh a + a) HS.out (sh_sh a ha HS.out) HT.out _).mono ?_) | refine (Shift_val (sh a) (sh a + a) HS.out (sh_sh a ha HS.out) HT.out _).mono ?_
  rintro e w7 ⟨rfl, hb7⟩
  go_wp2_with fail
  first | (with_reducible refine (awake_any _).mono ?_) | refine (awake_any _).mono ?_
  rintro e w8 ⟨rfl, hb8⟩
  go_wp2
  go_ret
  exact ⟨rfl, (((((((hb1.trans (hb2.mono hb1.size)).trans (hb3.mono (hb1.trans (hb2.mono hb1.size)).size)).trans (hb4.mono ((hb1.trans (hb2.mono hb1.size)).trans (hb3.mono (hb1.trans (hb2.mono hb1.size)).size)).size)).trans (hb5.mono (((hb1.trans (hb2.mono hb1.size)).trans (hb3.mono (hb1.trans (hb2.mono hb1.size)).size)).trans (hb4.mono ((hb1.trans (hb2.mono hb1.size)).trans (hb3.mono (hb1.trans (hb2.mono hb1.size)).size)).size)).size)).trans (hb6.mono ((((hb1.trans (hb2.mono hb1.size)).trans (hb3.mono (hb1.trans (hb2.mono hb1.size)).size)).trans (hb4.mono ((hb1.trans (hb2.mono hb1.size)).trans (hb3.mono (hb1.trans (hb2.mono hb1.size)).size)).size)).trans (hb5.mono (((hb1.trans (hb2.mono hb1.size)).trans (hb3.mono (hb1.trans (hb2.mono hb1.size)).size)).trans (hb4.mono ((hb1.trans (hb2.mono hb1.size)).trans (hb3.mono (hb1.trans (hb2.mono hb1.size)).size)).size)).size)).size)).trans (hb7.mono (((((hb1.trans (hb2.mono hb1.size)).trans (hb3.mono (hb1.trans (hb2.mono hb1.size)).size)).trans (hb4.mono ((hb1.trans (hb2.mono hb1.size)).trans (hb3.mono (hb1.trans (hb2.mono hb1.size)).size)).size)).trans (hb5.mono (((hb1.trans (hb2.mono hb1.size)).trans (hb3.mono (hb1.trans (hb2.mono hb1.size)).size)).trans (hb4.mono ((hb1.trans (hb2.mono hb1.size)).trans (hb3.mono (hb1.trans (hb2.mono hb1.size)).size)).size)).size)).trans (hb6.mono ((((hb1.trans (hb2.mono hb1.size)).trans (hb3.mono (hb1.trans (hb2.mono hb1.size)).size)).trans (hb4.mono ((hb1.trans (hb2.mono hb1.size)).trans (hb3.mono (hb1.trans (hb2.mono hb1.size)).size)).size)).trans (hb5.mono (((hb1.trans (hb2.mono hb1.size)).trans (hb3.mono (hb1.trans (hb2.mono hb1.size)).size)).trans (hb4.mono ((hb1.trans (hb2.mono hb1.size)).trans (hb3.mono (hb1.trans (hb2.mono hb1.size)).size)).size)).size)).size)).size)).trans (hb8.mono ((((((hb1.trans (hb2.mono hb1.size)).trans (hb3.mono (hb1.trans (hb2.mono hb1.size)).size)).trans (hb4.mono ((hb1.trans (hb2.mono hb1.size)).trans (hb3.mono (hb1.trans (hb2.mono hb1.size)).size)).size)).trans (hb5.mono (((hb1.trans (hb2.mono hb1.size)).trans (hb3.mono (hb1.trans (hb2.mono hb1.size)).size)).trans (hb4.mono ((hb1.trans (hb2.mono hb1.size)).trans (hb3.mono (hb1.trans (hb2.mono hb1.size)).size)).size)).size)).trans (hb6.mono ((((hb1.trans (hb2.mono hb1.size)).trans (hb3.mono (hb1.trans (hb2.mono hb1.size)).size)).trans (hb4.mono ((hb1.trans (hb2.mono hb1.size)).trans (hb3.mono (hb1.trans (hb2.mono hb1.size)).size)).size)).trans (hb5.mono (((hb1.trans (hb2.mono hb1.size)).trans (hb3.mono (hb1.trans (hb2.mono hb1.size)).size)).trans (hb4.mono ((hb1.trans (hb2.mono hb1.size)).trans (hb3.mono (hb1.trans (hb2.mono hb1.size)).size)).size)).size)).size)).trans (hb7.mono (((((hb1.trans (hb2.mono hb1.size)).trans (hb3.mono (hb1.trans (hb2.mono hb1.size)).size)).trans (hb4.mono ((hb1.trans (hb2.mono hb1.size)).trans (hb3.mono (hb1.trans (hb2.mono hb1.size)).size)).size)).trans (hb5.mono (((hb1.trans (hb2.mono hb1.size)).trans (hb3.mono (hb1.trans (hb2.mono hb1.size)).size)).trans (hb4.mono ((hb1.trans (hb2.mono hb1.size)).trans (hb3.mono (hb1.trans (hb2.mono hb1.size)).size)).size)).size)).trans (hb6.mono ((((hb1.trans (hb2.mono hb1.size)).trans (hb3.mono (hb1.trans (hb2.mono hb1.size)).size)).trans (hb4.mono ((hb1.trans (hb2.mono hb1.size)).trans (hb3.mono (hb1.trans (hb2.mono hb1.size)).size)).size)).trans (hb5.mono (((hb1.trans (hb2.mono hb1.size)).trans (hb3.mono (hb1.trans (hb2.mono hb1.size)).size)).trans (hb4.mono ((hb1.trans (hb2.mono hb1.size)).trans (hb3.mono (hb1.trans (hb2.mono hb1.size)).size)).size)).size)).size)).size)).size))⟩

set_option maxHeartbeats 4000000 in
theorem circles_cno_t (w : World) (a b : Nat) (c : Int) (ha : a ≤ 1000000000000) (hb : b ≤ 1000000000000) (x : Nat) (hx : circ (zeck a) (zeck b) = x) (hx1 : x ≤ 1000000000000) (hc : c < 0 ∨ 1000000000000 < c) (hs : sh a ≤ 1000000000000) (hss : 1000000000000 < sh a + a)  :
    Calls Try.prog 7 #[.int .i64 a, .int .i64 b, .int .i64 c] w fun e w' => e = .returned (.bool true) ∧ Below w.heap.size w w' := by
  have HX := Lib.hid hx; clear hx
  have HC := Lib.hid hc; clear hc
  have HS := Lib.hid hs; clear hs
  have HT := Lib.hid hss; clear hss
  go_enter Try.func7, Try.ntmps7
  go_wp2_with fail
  first | (with_reducible refine (Circle_ok a b x ha hb HX.out hx1 _).mono ?_) | refine (Circle_ok a b x ha hb HX.out hx1 _).mono ?_
  rintro e w1 ⟨rfl, hb1⟩
  go_wp2_with fail
  first | (with_reducible refine (Circle_ok b a x hb ha (by rw [circ_comm]; exact HX.out) hx1 _).mono ?_) | refine (Circle_ok b a x hb ha (by rw [circ_comm]; exact HX.out) hx1 _).mono ?_
  rintro e w2 ⟨rfl, hb2⟩
  go_wp2_with fail
  first | (with_reducible refine (Circle_bad x c (.inr HC.out) _).mono ?_) | refine (Circle_bad x c (.inr HC.out) _).mono ?_
  rintro e w3 ⟨rfl, hb3⟩
  go_wp2_with fail
  first | (with_reducible refine (Circle_bad b c (.inr HC.out) _).mono ?_) | refine (Circle_bad b c (.inr HC.out) _).mono ?_
  rintro e w4 ⟨rfl, hb4⟩
  go_wp2_with fail
  first | (with_reducible refine (Circle1_big a ha (by rw [circ_1 a ha]; have := HT.out; omega) _).mono ?_) | refine (Circle1_big a ha (by rw [circ_1 a ha]; have := HT.out; omega) _).mono ?_
  rintro e w5 ⟨rfl, hb5⟩
  go_wp2_with fail
  first | (with_reducible refine (Shift_yes a ha HS.out _).mono ?_) | refine (Shift_yes a ha HS.out _).mono ?_
  rintro e w6 ⟨rfl, hb6⟩
  go_wp2_with fail
  first | (with_reducible refine (Shift_big (sh a) HS.out (by rw [sh_sh a ha HS.out]; exact HT.out) _).mono ?_) | refine (Shift_big (sh a) HS.out (by rw [sh_sh a ha HS.out]; exact HT.out) _).mono ?_
  rintro e w7 ⟨rfl, hb7⟩
  go_wp2_with fail
  first | (with_reducible refine (awake_any _).mono ?_) | refine (awake_any _).mono ?_
  rintro e w8 ⟨rfl, hb8⟩
  go_wp2
  go_ret
  exact ⟨rfl, (((((((hb1.trans (hb2.mono hb1.size)).trans (hb3.mono (hb1.trans (hb2.mono hb1.size)).size)).trans (hb4.mono ((hb1.trans (hb2.mono hb1.size)).trans (hb3.mono (hb1.trans (hb2.mono hb1.size)).size)).size)).trans (hb5.mono (((hb1.trans (hb2.mono hb1.size)).trans (hb3.mono (hb1.trans (hb2.mono hb1.size)).size)).trans (hb4.mono ((hb1.trans (hb2.mono hb1.size)).trans (hb3.mono (hb1.trans (hb2.mono hb1.size)).size)).size)).size)).trans (hb6.mono ((((hb1.trans (hb2.mono hb1.size)).trans (hb3.mono (hb1.trans (hb2.mono hb1.size)).size)).trans (hb4.mono ((hb1.trans (hb2.mono hb1.size)).trans (hb3.mono (hb1.trans (hb2.mono hb1.size)).size)).size)).trans (hb5.mono (((hb1.trans (hb2.mono hb1.size)).trans (hb3.mono (hb1.trans (hb2.mono hb1.size)).size)).trans (hb4.mono ((hb1.trans (hb2.mono hb1.size)).trans (hb3.mono (hb1.trans (hb2.mono hb1.size)).size)).size)).size)).size)).trans (hb7.mono (((((hb1.trans (hb2.mono hb1.size)).trans (hb3.mono (hb1.trans (hb2.mono hb1.size)).size)).trans (hb4.mono ((hb1.trans (hb2.mono hb1.size)).trans (hb3.mono (hb1.trans (hb2.mono hb1.size)).size)).size)).trans (hb5.mono (((hb1.trans (hb2.mono hb1.size)).trans (hb3.mono (hb1.trans (hb2.mono hb1.size)).size)).trans (hb4.mono ((hb1.trans (hb2.mono hb1.size)).trans (hb3.mono (hb1.trans (hb2.mono hb1.size)).size)).size)).size)).trans (hb6.mono ((((hb1.trans (hb2.mono hb1.size)).trans (hb3.mono (hb1.trans (hb2.mono hb1.size)).size)).trans (hb4.mono ((hb1.trans (hb2.mono hb1.size)).trans (hb3.mono (hb1.trans (hb2.mono hb1.size)).size)).size)).trans (hb5.mono (((hb1.trans (hb2.mono hb1.size)).trans (hb3.mono (hb1.trans (hb2.mono hb1.size)).size)).trans (hb4.mono ((hb1.trans (hb2.mono hb1.size)).trans (hb3.mono (hb1.trans (hb2.mono hb1.size)).size)).size)).size)).size)).size)).trans (hb8.mono ((((((hb1.trans (hb2.mono hb1.size)).trans (hb3.mono (hb1.trans (hb2.mono hb1.size)).size)).trans (hb4.mono ((hb1.trans (hb2.mono hb1.size)).trans (hb3.mono (hb1.trans (hb2.mono hb1.size)).size)).size)).trans (hb5.mono (((hb1.trans (hb2.mono hb1.size)).trans (hb3.mono (hb1.trans (hb2.mono hb1.size)).size)).trans (hb4.mono ((hb1.trans (hb2.mono hb1.size)).trans (hb3.mono (hb1.trans (hb2.mono hb1.size)).size)).size)).size)).trans (hb6.mono ((((hb1.trans (hb2.mono hb1.size)).trans (hb3.mono (hb1.trans (hb2.mono hb1.size)).size)).trans (hb4.mono ((hb1.trans (hb2.mono hb1.size)).trans (hb3.mono (hb1.trans (hb2.mono hb1.size)).size)).size)).trans (hb5.mono (((hb1.trans (hb2.mono hb1.size)).trans (hb3.mono (hb1.trans (hb2.mono hb1.size)).size)).trans (hb4.mono ((hb1.trans (hb2.mono hb1.size)).trans (hb3.mono (hb1.trans (hb2.mono hb1.size)).size)).size)).size)).size)).trans (hb7.mono (((((hb1.trans (hb2.mono hb1.size)).trans (hb3.mono (hb1.trans (hb2.mono hb1.size)).size)).trans (hb4.mono ((hb1.trans (hb2.mono hb1.size)).trans (hb3.mono (hb1.trans (hb2.mono hb1.size)).size)).size)).trans (hb5.mono (((hb1.trans (hb2.mono hb1.size)).trans (hb3.mono (hb1.trans (hb2.mono hb1.size)).size)).trans (hb4.mono ((hb1.trans (hb2.mono hb1.size)).trans (hb3.mono (hb1.trans (hb2.mono hb1.size)).size)).size)).size)).trans (hb6.mono ((((hb1.trans (hb2.mono hb1.size)).trans (hb3.mono (hb1.trans (hb2.mono hb1.size)).size)).trans (hb4.mono ((hb1.trans (hb2.mono hb1.size)).trans (hb3.mono (hb1.trans (hb2.mono hb1.size)).size)).size)).trans (hb5.mono (((hb1.trans (hb2.mono hb1.size)).trans (hb3.mono (hb1.trans (hb2.mono hb1.size)).size)).trans (hb4.mono ((hb1.trans (hb2.mono hb1.size)).trans (hb3.mono (hb1.trans (hb2.mono hb1.size)).size)).size)).size)).size)).size)).size))⟩

set_option maxHeartbeats 4000000 in
theorem circles_zok_b (w : World) (a b : Nat) (c : Nat) (ha : a ≤ 1000000000000) (hb : b ≤ 1000000000000) (x : Nat) (hx : circ (zeck a) (zeck b) = x) (hx1 : x ≤ 1000000000000) (hc : c ≤ 1000000000000) (z : Nat) (hz : circ (zeck b) (zeck c) = z) (hz1 : z ≤ 1000000000000) (hp : ¬ circ (zeck x) (zeck c) ≤ 1000000000000) (hs : 1000000000000 < sh a)  :
    Calls Try.prog 7 #[.int .i64 a, .int .i64 b, .int .i64 c] w fun e w' => e = .returned (.bool true) ∧ Below w.heap.size w w' := by
  have HX := Lib.hid hx; clear hx
  have HZ := Lib.hid hz; clear hz
  have HP := Lib.hid hp; clear hp
  have HS := Lib.hid hs; clear hs
  go_enter Try.func7, Try.ntmps7
  go_wp2_with fail
  first | (with_reducible refine (Circle_ok a b x ha hb HX.out hx1 _).mono ?_) | refine (Circle_ok a b x ha hb HX.out hx1 _).mono ?_
  rintro e w1 ⟨rfl, hb1⟩
  go_wp2_with fail
  first | (with_reducible refine (Circle_ok b a x hb ha (by rw [circ_comm]; exact HX.out) hx1 _).mono ?_) | refine (Circle_ok b a x hb ha (by rw [circ_comm]; exact HX.out) hx1 _).mono ?_
  rintro e w2 ⟨rfl, hb2⟩
  go_wp2_with fail
  first | (with_reducible refine (Circle_big x c hx1 hc HP.out _).mono ?_) | refine (Circle_big x c hx1 hc HP.out _).mono ?_
  rintro e w3 ⟨rfl, hb3⟩
  go_wp2_with fail
  first | (with_reducible refine (Circle_ok b c z hb hc HZ.out hz1 _).mono ?_) | refine (Circle_ok b c z hb hc HZ.out hz1 _).mono ?_
  rintro e w4 ⟨rfl, hb4⟩
  go_wp2_with fail
  first | (with_reducible refine (Circle1_big a ha (by rw [circ_1 a ha]; have := HS.out; omega) _).mono ?_) | refine (Circle1_big a ha (by rw [circ_1 a ha]; have := HS.out; omega) _).mono ?_
  rintro e w5 ⟨rfl, hb5⟩
  go_wp2_with fail
  first | (with_reducible refine (Shift_big a ha HS.out _).mono ?_) | refine (Shift_big a ha HS.out _).mono ?_
  rintro e w6 ⟨rfl, hb6⟩
  go_wp2_with fail
  first | (with_reducible refine (awake_any _).mono ?_) | refine (awake_any _).mono ?_
  rintro e w7 ⟨rfl, hb7⟩
  go_wp2
  go_ret
  exact ⟨rfl, ((((((hb1.trans (hb2.mono hb1.size)).trans (hb3.mono (hb1.trans (hb2.mono hb1.size)).size)).trans (hb4.mono ((hb1.trans (hb2.mono hb1.size)).trans (hb3.mono (hb1.trans (hb2.mono hb1.size)).size)).size)).trans (hb5.mono (((hb1.trans (hb2.mono hb1.size)).trans (hb3.mono (hb1.trans (hb2.mono hb1.size)).size)).trans (hb4.mono ((hb1.trans (hb2.mono hb1.size)).trans (hb3.mono (hb1.trans (hb2.mono hb1.size)).size)).size)).size)).trans (hb6.mono ((((hb1.trans (hb2.mono hb1.size)).trans (hb3.mono (hb1.trans (hb2.mono hb1.size)).size)).trans (hb4.mono ((hb1.trans (hb2.mono hb1.size)).trans (hb3.mono (hb1.trans (hb2.mono hb1.size)).size)).size)).trans (hb5.mono (((hb1.trans (hb2.mono hb1.size)).trans (hb3.mono (hb1.trans (hb2.mono hb1.size)).size)).trans (hb4.mono ((hb1.trans (hb2.mono hb1.size)).trans (hb3.mono (hb1.trans (hb2.mono hb1.size)).size)).size)).size)).size)).trans (hb7.mono (((((hb1.trans (hb2.mono hb1.size)).trans (hb3.mono (hb1.trans (hb2.mono hb1.size)).size)).trans (hb4.mono ((hb1.trans (hb2.mono hb1.size)).trans (hb3.mono (hb1.trans (hb2.mono hb1.size)).size)).size)).trans (hb5.mono (((hb1.trans (hb2.mono hb1.size)).trans (hb3.mono (hb1.trans (hb2.mono hb1.size)).size)).trans (hb4.mono ((hb1.trans (hb2.mono hb1.size)).trans (hb3.mono (hb1.trans (hb2.mono hb1.size)).size)).size)).size)).trans (hb6.mono ((((hb1.trans (hb2.mono hb1.size)).trans (hb3.mono (hb1.trans (hb2.mono hb1.size)).size)).trans (hb4.mono ((hb1.trans (hb2.mono hb1.size)).trans (hb3.mono (hb1.trans (hb2.mono hb1.size)).size)).size)).trans (hb5.mono (((hb1.trans (hb2.mono hb1.size)).trans (hb3.mono (hb1.trans (hb2.mono hb1.size)).size)).trans (hb4.mono ((hb1.trans (hb2.mono hb1.size)).trans (hb3.mono (hb1.trans (hb2.mono hb1.size)).size)).size)).size)).size)).size))⟩

set_option maxHeartbeats 4000000 in
theorem circles_zok_s (w : World) (a b : Nat) (c : Nat) (ha : a ≤ 1000000000000) (hb : b ≤ 1000000000000) (x : Nat) (hx : circ (zeck a) (zeck b) = x) (hx1 : x ≤ 1000000000000) (hc : c ≤ 1000000000000) (z : Nat) (hz : circ (zeck b) (zeck c) = z) (hz1 : z ≤ 1000000000000) (hp : ¬ circ (zeck x) (zeck c) ≤ 1000000000000) (hs : sh a ≤ 1000000000000) (hss : sh a + a ≤ 1000000000000)  :
    Calls Try.prog 7 #[.int .i64 a, .int .i64 b, .int .i64 c] w fun e w' => e = .returned (.bool true) ∧ Below w.heap.size w w' := by
  have HX := Lib.hid hx; clear hx
  have HZ := Lib.hid hz; clear hz
  have HP := Lib.hid hp; clear hp
  have HS := Lib.hid hs; clear hs
  have HT := Lib.hid hss; clear hss
  go_enter Try.func7, Try.ntmps7
  go_wp2_with fail
  first | (with_reducible refine (Circle_ok a b x ha hb HX.out hx1 _).mono ?_) | refine (Circle_ok a b x ha hb HX.out hx1 _).mono ?_
  rintro e w1 ⟨rfl, hb1⟩
  go_wp2_with fail
  first | (with_reducible refine (Circle_ok b a x hb ha (by rw [circ_comm]; exact HX.out) hx1 _).mono ?_) | refine (Circle_ok b a x hb ha (by rw [circ_comm]; exact HX.out) hx1 _).mono ?_
  rintro e w2 ⟨rfl, hb2⟩
  go_wp2_with fail
  first | (with_reducible refine (Circle_big x c hx1 hc HP.out _).mono ?_) | refine (Circle_big x c hx1 hc HP.out _).mono ?_
  rintro e w3 ⟨rfl, hb3⟩
  go_wp2_with fail
  first | (with_reducible refine (Circle_ok b c z hb hc HZ.out hz1 _).mono ?_) | refine (Circle_ok b c z hb hc HZ.out hz1 _).mono ?_
  rintro e w4 ⟨rfl, hb4⟩
  go_wp2_with fail
  first | (with_reducible refine (Circle1_ok a (sh a + a) ha (circ_1 a ha) HT.out _).mono ?_) | refine (Circle1_ok a (sh a + a) ha (circ_1 a ha) HT.out _).mono ?_
  rintro e w5 ⟨rfl, hb5⟩
  go_wp2_with fail
  first | (with_reducible refine (Shift_yes a ha HS.out _).mono ?_) | refine (Shift_yes a ha HS.out _).mono ?_
  rintro e w6 ⟨rfl, hb6⟩
  go_wp2_with fail
  first | (with_reducible refine (Shift_val (sh a) (sh a + a) HS.out (sh_sh a ha HS.out) HT.out _).mono ?_) | refine (Shift_val (sh a) (sh a + a) HS.out (sh_sh a ha HS.out) HT.out _).mono ?_
  rintro e w7 ⟨rfl, hb7⟩
  go_wp2_with fail
  first | (with_reducible refine (awake_any _).mono ?_) | refine (awake_any _).mono ?_
  rintro e w8 ⟨rfl, hb8⟩
  go_wp2
  go_ret
  exact ⟨rfl, (((((((hb1.trans (hb2.mono hb1.size)).trans (hb3.mono (hb1.trans (hb2.mono hb1.size)).size)).trans (hb4.mono ((hb1.trans (hb2.mono hb1.size)).trans (hb3.mono (hb1.trans (hb2.mono hb1.size)).size)).size)).trans (hb5.mono (((hb1.trans (hb2.mono hb1.size)).trans (hb3.mono (hb1.trans (hb2.mono hb1.size)).size)).trans (hb4.mono ((hb1.trans (hb2.mono hb1.size)).trans (hb3.mono (hb1.trans (hb2.mono hb1.size)).size)).size)).size)).trans (hb6.mono ((((hb1.trans (hb2.mono hb1.size)).trans (hb3.mono (hb1.trans (hb2.mono hb1.size)).size)).trans (hb4.mono ((hb1.trans (hb2.mono hb1.size)).trans (hb3.mono (hb1.trans (hb2.mono hb1.size)).size)).size)).trans (hb5.mono (((hb1.trans (hb2.mono hb1.size)).trans (hb3.mono (hb1.trans (hb2.mono hb1.size)).size)).trans (hb4.mono ((hb1.trans (hb2.mono hb1.size)).trans (hb3.mono (hb1.trans (hb2.mono hb1.size)).size)).size)).size)).size)).trans (hb7.mono (((((hb1.trans (hb2.mono hb1.size)).trans (hb3.mono (hb1.trans (hb2.mono hb1.size)).size)).trans (hb4.mono ((hb1.trans (hb2.mono hb1.size)).trans (hb3.mono (hb1.trans (hb2.mono hb1.size)).size)).size)).trans (hb5.mono (((hb1.trans (hb2.mono hb1.size)).trans (hb3.mono (hb1.trans (hb2.mono hb1.size)).size)).trans (hb4.mono ((hb1.trans (hb2.mono hb1.size)).trans (hb3.mono (hb1.trans (hb2.mono hb1.size)).size)).size)).size)).trans (hb6.mono ((((hb1.trans (hb2.mono hb1.size)).trans (hb3.mono (hb1.trans (hb2.mono hb1.size)).size)).trans (hb4.mono ((hb1.trans (hb2.mono hb1.size)).trans (hb3.mono (hb1.trans (hb2.mono hb1.size)).size)).size)).trans (hb5.mono (((hb1.trans (hb2.mono hb1.size)).trans (hb3.mono (hb1.trans (hb2.mono hb1.size)).size)).trans (hb4.mono ((hb1.trans (hb2.mono hb1.size)).trans (hb3.mono (hb1.trans (hb2.mono hb1.size)).size)).size)).size)).size)).size)).trans (hb8.mono ((((((hb1.trans (hb2.mono hb1.size)).trans (hb3.mono (hb1.trans (hb2.mono hb1.size)).size)).trans (hb4.mono ((hb1.trans (hb2.mono hb1.size)).trans (hb3.mono (hb1.trans (hb2.mono hb1.size)).size)).size)).trans (hb5.mono (((hb1.trans (hb2.mono hb1.size)).trans (hb3.mono (hb1.trans (hb2.mono hb1.size)).size)).trans (hb4.mono ((hb1.trans (hb2.mono hb1.size)).trans (hb3.mono (hb1.trans (hb2.mono hb1.size)).size)).size)).size)).trans (hb6.mono ((((hb1.trans (hb2.mono hb1.size)).trans (hb3.mono (hb1.trans (hb2.mono hb1.size)).size)).trans (hb4.mono ((hb1.trans (hb2.mono hb1.size)).trans (hb3.mono (hb1.trans (hb2.mono hb1.size)).size)).size)).trans (hb5.mono (((hb1.trans (hb2.mono hb1.size)).trans (hb3.mono (hb1.trans (hb2.mono hb1.size)).size)).trans (hb4.mono ((hb1.trans (hb2.mono hb1.size)).trans (hb3.mono (hb1.trans (hb2.mono hb1.size)).size)).size)).size)).size)).trans (hb7.mono (((((hb1.trans (hb2.mono hb1.size)).trans (hb3.mono (hb1.trans (hb2.mono hb1.size)).size)).trans (hb4.mono ((hb1.trans (hb2.mono hb1.size)).trans (hb3.mono (hb1.trans (hb2.mono hb1.size)).size)).size)).trans (hb5.mono (((hb1.trans (hb2.mono hb1.size)).trans (hb3.mono (hb1.trans (hb2.mono hb1.size)).size)).trans (hb4.mono ((hb1.trans (hb2.mono hb1.size)).trans (hb3.mono (hb1.trans (hb2.mono hb1.size)).size)).size)).size)).trans (hb6.mono ((((hb1.trans (hb2.mono hb1.size)).trans (hb3.mono (hb1.trans (hb2.mono hb1.size)).size)).trans (hb4.mono ((hb1.trans (hb2.mono hb1.size)).trans (hb3.mono (hb1.trans (hb2.mono hb1.size)).size)).size)).trans (hb5.mono (((hb1.trans (hb2.mono hb1.size)).trans (hb3.mono (hb1.trans (hb2.mono hb1.size)).size)).trans (hb4.mono ((hb1.trans (hb2.mono hb1.size)).trans (hb3.mono (hb1.trans (hb2.mono hb1.size)).size)).size)).size)).size)).size)).size))⟩

set_option maxHeartbeats 4000000 in
theorem circles_zok_t (w : World) (a b : Nat) (c : Nat) (ha : a ≤ 1000000000000) (hb : b ≤ 1000000000000) (x : Nat) (hx : circ (zeck a) (zeck b) = x) (hx1 : x ≤ 1000000000000) (hc : c ≤ 1000000000000) (z : Nat) (hz : circ (zeck b) (zeck c) = z) (hz1 : z ≤ 1000000000000) (hp : ¬ circ (zeck x) (zeck c) ≤ 1000000000000) (hs : sh a ≤ 1000000000000) (hss : 1000000000000 < sh a + a)  :
    Calls Try.prog 7 #[.int .i64 a, .int .i64 b, .int .i64 c] w fun e w' => e = .returned (.bool true) ∧ Below w.heap.size w w' := by
  have HX := Lib.hid hx; clear hx
  have HZ := Lib.hid hz; clear hz
  have HP := Lib.hid hp; clear hp
  have HS := Lib.hid hs; clear hs
  have HT := Lib.hid hss; clear hss
  go_enter Try.func7, Try.ntmps7
  go_wp2_with fail
  first | (with_reducible refine (Circle_ok a b x ha hb HX.out hx1 _).mono ?_) | refine (Circle_ok a b x ha hb HX.out hx1 _).mono ?_
  rintro e w1 ⟨rfl, hb1⟩
  go_wp2_with fail
  first | (with_reducible refine (Circle_ok b a x hb ha (by rw [circ_comm]; exact HX.out) hx1 _).mono ?_) | refine (Circle_ok b a x hb ha (by rw [circ_comm]; exact HX.out) hx1 _).mono ?_
  rintro e w2 ⟨rfl, hb2⟩
  go_wp2_with fail
  first | (with_reducible refine (Circle_big x c hx1 hc HP.out _).mono ?_) | refine (Circle_big x c hx1 hc HP.out _).mono ?_
  rintro e w3 ⟨rfl, hb3⟩
  go_wp2_with fail
  first | (with_reducible refine (Circle_ok b c z hb hc HZ.out hz1 _).mono ?_) | refine (Circle_ok b c z hb hc HZ.out hz1 _).mono ?_
  rintro e w4 ⟨rfl, hb4⟩
  go_wp2_with fail
  first | (with_reducible refine (Circle1_big a ha (by rw [circ_1 a ha]; have := HT.out; omega) _).mono ?_) | refine (Circle1_big a ha (by rw [circ_1 a ha]; have := HT.out; omega) _).mono ?_
  rintro e w5 ⟨rfl, hb5⟩
  go_wp2_with fail
  first | (with_reducible refine (Shift_yes a ha HS.out _).mono ?_) | refine (Shift_yes a ha HS.out _).mono ?_
  rintro e w6 ⟨rfl, hb6⟩
  go_wp2_with fail
  first | (with_reducible refine (Shift_big (sh a) HS.out (by rw [sh_sh a ha HS.out]; exact HT.out) _).mono ?_) | refine (Shift_big (sh a) HS.out (by rw [sh_sh a ha HS.out]; exact HT.out) _).mono ?_
  rintro e w7 ⟨rfl, hb7⟩
  go_wp2_with fail
  first | (with_reducible refine (awake_any _).mono ?_) | refine (awake_any _).mono ?_
  rintro e w8 ⟨rfl, hb8⟩
  go_wp2
  go_ret
  exact ⟨rfl, (((((((hb1.trans (hb2.mono hb1.size)).trans (hb3.mono (hb1.trans (hb2.mono hb1.size)).size)).trans (hb4.mono ((hb1.trans (hb2.mono hb1.size)).trans (hb3.mono (hb1.trans (hb2.mono hb1.size)).size)).size)).trans (hb5.mono (((hb1.trans (hb2.mono hb1.size)).trans (hb3.mono (hb1.trans (hb2.mono hb1.size)).size)).trans (hb4.mono ((hb1.trans (hb2.mono hb1.size)).trans (hb3.mono (hb1.trans (hb2.mono hb1.size)).size)).size)).size)).trans (hb6.mono ((((hb1.trans (hb2.mono hb1.size)).trans (hb3.mono (hb1.trans (hb2.mono hb1.size)).size)).trans (hb4.mono ((hb1.trans (hb2.mono hb1.size)).trans (hb3.mono (hb1.trans (hb2.mono hb1.size)).size)).size)).trans (hb5.mono (((hb1.trans (hb2.mono hb1.size)).trans (hb3.mono (hb1.trans (hb2.mono hb1.size)).size)).trans (hb4.mono ((hb1.trans (hb2.mono hb1.size)).trans (hb3.mono (hb1.trans (hb2.mono hb1.size)).size)).size)).size)).size)).trans (hb7.mono (((((hb1.trans (hb2.mono hb1.size)).trans (hb3.mono (hb1.trans (hb2.mono hb1.size)).size)).trans (hb4.mono ((hb1.trans (hb2.mono hb1.size)).trans (hb3.mono (hb1.trans (hb2.mono hb1.size)).size)).size)).trans (hb5.mono (((hb1.trans (hb2.mono hb1.size)).trans (hb3.mono (hb1.trans (hb2.mono hb1.size)).size)).trans (hb4.mono ((hb1.trans (hb2.mono hb1.size)).trans (hb3.mono (hb1.trans (hb2.mono hb1.size)).size)).size)).size)).trans (hb6.mono ((((hb1.trans (hb2.mono hb1.size)).trans (hb3.mono (hb1.trans (hb2.mono hb1.size)).size)).trans (hb4.mono ((hb1.trans (hb2.mono hb1.size)).trans (hb3.mono (hb1.trans (hb2.mono hb1.size)).size)).size)).trans (hb5.mono (((hb1.trans (hb2.mono hb1.size)).trans (hb3.mono (hb1.trans (hb2.mono hb1.size)).size)).trans (hb4.mono ((hb1.trans (hb2.mono hb1.size)).trans (hb3.mono (hb1.trans (hb2.mono hb1.size)).size)).size)).size)).size)).size)).trans (hb8.mono ((((((hb1.trans (hb2.mono hb1.size)).trans (hb3.mono (hb1.trans (hb2.mono hb1.size)).size)).trans (hb4.mono ((hb1.trans (hb2.mono hb1.size)).trans (hb3.mono (hb1.trans (hb2.mono hb1.size)).size)).size)).trans (hb5.mono (((hb1.trans (hb2.mono hb1.size)).trans (hb3.mono (hb1.trans (hb2.mono hb1.size)).size)).trans (hb4.mono ((hb1.trans (hb2.mono hb1.size)).trans (hb3.mono (hb1.trans (hb2.mono hb1.size)).size)).size)).size)).trans (hb6.mono ((((hb1.trans (hb2.mono hb1.size)).trans (hb3.mono (hb1.trans (hb2.mono hb1.size)).size)).trans (hb4.mono ((hb1.trans (hb2.mono hb1.size)).trans (hb3.mono (hb1.trans (hb2.mono hb1.size)).size)).size)).trans (hb5.mono (((hb1.trans (hb2.mono hb1.size)).trans (hb3.mono (hb1.trans (hb2.mono hb1.size)).size)).trans (hb4.mono ((hb1.trans (hb2.mono hb1.size)).trans (hb3.mono (hb1.trans (hb2.mono hb1.size)).size)).size)).size)).size)).trans (hb7.mono (((((hb1.trans (hb2.mono hb1.size)).trans (hb3.mono (hb1.trans (hb2.mono hb1.size)).size)).trans (hb4.mono ((hb1.trans (hb2.mono hb1.size)).trans (hb3.mono (hb1.trans (hb2.mono hb1.size)).size)).size)).trans (hb5.mono (((hb1.trans (hb2.mono hb1.size)).trans (hb3.mono (hb1.trans (hb2.mono hb1.size)).size)).trans (hb4.mono ((hb1.trans (hb2.mono hb1.size)).trans (hb3.mono (hb1.trans (hb2.mono hb1.size)).size)).size)).size)).trans (hb6.mono ((((hb1.trans (hb2.mono hb1.size)).trans (hb3.mono (hb1.trans (hb2.mono hb1.size)).size)).trans (hb4.mono ((hb1.trans (hb2.mono hb1.size)).trans (hb3.mono (hb1.trans (hb2.mono hb1.size)).size)).size)).trans (hb5.mono (((hb1.trans (hb2.mono hb1.size)).trans (hb3.mono (hb1.trans (hb2.mono hb1.size)).size)).trans (hb4.mono ((hb1.trans (hb2.mono hb1.size)).trans (hb3.mono (hb1.trans (hb2.mono hb1.size)).size)).size)).size)).size)).size)).size))⟩

set_option maxHeartbeats 4000000 in
theorem circles_all_b (w : World) (a b : Nat) (c : Nat) (ha : a ≤ 1000000000000) (hb : b ≤ 1000000000000) (x : Nat) (hx : circ (zeck a) (zeck b) = x) (hx1 : x ≤ 1000000000000) (hc : c ≤ 1000000000000) (z : Nat) (hz : circ (zeck b) (zeck c) = z) (hz1 : z ≤ 1000000000000) (p : Nat) (hp : circ (zeck x) (zeck c) = p) (hp1 : p ≤ 1000000000000) (hq : circ (zeck a) (zeck z) = p) (hs : 1000000000000 < sh a)  :
    Calls Try.prog 7 #[.int .i64 a, .int .i64 b, .int .i64 c] w fun e w' => e = .returned (.bool true) ∧ Below w.heap.size w w' := by
  have HX := Lib.hid hx; clear hx
  have HZ := Lib.hid hz; clear hz
  have HP := Lib.hid hp; clear hp
  have HQ := Lib.hid hq; clear hq
  have HS := Lib.hid hs; clear hs
  go_enter Try.func7, Try.ntmps7
  go_wp2_with fail
  first | (with_reducible refine (Circle_ok a b x ha hb HX.out hx1 _).mono ?_) | refine (Circle_ok a b x ha hb HX.out hx1 _).mono ?_
  rintro e w1 ⟨rfl, hb1⟩
  go_wp2_with fail
  first | (with_reducible refine (Circle_ok b a x hb ha (by rw [circ_comm]; exact HX.out) hx1 _).mono ?_) | refine (Circle_ok b a x hb ha (by rw [circ_comm]; exact HX.out) hx1 _).mono ?_
  rintro e w2 ⟨rfl, hb2⟩
  go_wp2_with fail
  first | (with_reducible refine (Circle_ok x c p hx1 hc HP.out hp1 _).mono ?_) | refine (Circle_ok x c p hx1 hc HP.out hp1 _).mono ?_
  rintro e w3 ⟨rfl, hb3⟩
  go_wp2_with fail
  first | (with_reducible refine (Circle_ok b c z hb hc HZ.out hz1 _).mono ?_) | refine (Circle_ok b c z hb hc HZ.out hz1 _).mono ?_
  rintro e w4 ⟨rfl, hb4⟩
  go_wp2_with fail
  first | (with_reducible refine (Circle_ok a z p ha hz1 HQ.out hp1 _).mono ?_) | refine (Circle_ok a z p ha hz1 HQ.out hp1 _).mono ?_
  rintro e w5 ⟨rfl, hb5⟩
  go_wp2_with fail
  first | (with_reducible refine (Circle1_big a ha (by rw [circ_1 a ha]; have := HS.out; omega) _).mono ?_) | refine (Circle1_big a ha (by rw [circ_1 a ha]; have := HS.out; omega) _).mono ?_
  rintro e w6 ⟨rfl, hb6⟩
  go_wp2_with fail
  first | (with_reducible refine (Shift_big a ha HS.out _).mono ?_) | refine (Shift_big a ha HS.out _).mono ?_
  rintro e w7 ⟨rfl, hb7⟩
  go_wp2_with fail
  first | (with_reducible refine (awake_any _).mono ?_) | refine (awake_any _).mono ?_
  rintro e w8 ⟨rfl, hb8⟩
  go_wp2
  go_ret
  exact ⟨rfl, (((((((hb1.trans (hb2.mono hb1.size)).trans (hb3.mono (hb1.trans (hb2.mono hb1.size)).size)).trans (hb4.mono ((hb1.trans (hb2.mono hb1.size)).trans (hb3.mono (hb1.trans (hb2.mono hb1.size)).size)).size)).trans (hb5.mono (((hb1.trans (hb2.mono hb1.size)).trans (hb3.mono (hb1.trans (hb2.mono hb1.size)).size)).trans (hb4.mono ((hb1.trans (hb2.mono hb1.size)).trans (hb3.mono (hb1.trans (hb2.mono hb1.size)).size)).size)).size)).trans (hb6.mono ((((hb1.trans (hb2.mono hb1.size)).trans (hb3.mono (hb1.trans (hb2.mono hb1.size)).size)).trans (hb4.mono ((hb1.trans (hb2.mono hb1.size)).trans (hb3.mono (hb1.trans (hb2.mono hb1.size)).size)).size)).trans (hb5.mono (((hb1.trans (hb2.mono hb1.size)).trans (hb3.mono (hb1.trans (hb2.mono hb1.size)).size)).trans (hb4.mono ((hb1.trans (hb2.mono hb1.size)).trans (hb3.mono (hb1.trans (hb2.mono hb1.size)).size)).size)).size)).size)).trans (hb7.mono (((((hb1.trans (hb2.mono hb1.size)).trans (hb3.mono (hb1.trans (hb2.mono hb1.size)).size)).trans (hb4.mono ((hb1.trans (hb2.mono hb1.size)).trans (hb3.mono (hb1.trans (hb2.mono hb1.size)).size)).size)).trans (hb5.mono (((hb1.trans (hb2.mono hb1.size)).trans (hb3.mono (hb1.trans (hb2.mono hb1.size)).size)).trans (hb4.mono ((hb1.trans (hb2.mono hb1.size)).trans (hb3.mono (hb1.trans (hb2.mono hb1.size)).size)).size)).size)).trans (hb6.mono ((((hb1.trans (hb2.mono hb1.size)).trans (hb3.mono (hb1.trans (hb2.mono hb1.size)).size)).trans (hb4.mono ((hb1.trans (hb2.mono hb1.size)).trans (hb3.mono (hb1.trans (hb2.mono hb1.size)).size)).size)).trans (hb5.mono (((hb1.trans (hb2.mono hb1.size)).trans (hb3.mono (hb1.trans (hb2.mono hb1.size)).size)).trans (hb4.mono ((hb1.trans (hb2.mono hb1.size)).trans (hb3.mono (hb1.trans (hb2.mono hb1.size)).size)).size)).size)).size)).size)).trans (hb8.mono ((((((hb1.trans (hb2.mono hb1.size)).trans (hb3.mono (hb1.trans (hb2.mono hb1.size)).size)).trans (hb4.mono ((hb1.trans (hb2.mono hb1.size)).trans (hb3.mono (hb1.trans (hb2.mono hb1.size)).size)).size)).trans (hb5.mono (((hb1.trans (hb2.mono hb1.size)).trans (hb3.mono (hb1.trans (hb2.mono hb1.size)).size)).trans (hb4.mono ((hb1.trans (hb2.mono hb1.size)).trans (hb3.mono (hb1.trans (hb2.mono hb1.size)).size)).size)).size)).trans (hb6.mono ((((hb1.trans (hb2.mono hb1.size)).trans (hb3.mono (hb1.trans (hb2.mono hb1.size)).size)).trans (hb4.mono ((hb1.trans (hb2.mono hb1.size)).trans (hb3.mono (hb1.trans (hb2.mono hb1.size)).size)).size)).trans (hb5.mono (((hb1.trans (hb2.mono hb1.size)).trans (hb3.mono (hb1.trans (hb2.mono hb1.size)).size)).trans (hb4.mono ((hb1.trans (hb2.mono hb1.size)).trans (hb3.mono (hb1.trans (hb2.mono hb1.size)).size)).size)).size)).size)).trans (hb7.mono (((((hb1.trans (hb2.mono hb1.size)).trans (hb3.mono (hb1.trans (hb2.mono hb1.size)).size)).trans (hb4.mono ((hb1.trans (hb2.mono hb1.size)).trans (hb3.mono (hb1.trans (hb2.mono hb1.size)).size)).size)).trans (hb5.mono (((hb1.trans (hb2.mono hb1.size)).trans (hb3.mono (hb1.trans (hb2.mono hb1.size)).size)).trans (hb4.mono ((hb1.trans (hb2.mono hb1.size)).trans (hb3.mono (hb1.trans (hb2.mono hb1.size)).size)).size)).size)).trans (hb6.mono ((((hb1.trans (hb2.mono hb1.size)).trans (hb3.mono (hb1.trans (hb2.mono hb1.size)).size)).trans (hb4.mono ((hb1.trans (hb2.mono hb1.size)).trans (hb3.mono (hb1.trans (hb2.mono hb1.size)).size)).size)).trans (hb5.mono (((hb1.trans (hb2.mono hb1.size)).trans (hb3.mono (hb1.trans (hb2.mono hb1.size)).size)).trans (hb4.mono ((hb1.trans (hb2.mono hb1.size)).trans (hb3.mono (hb1.trans (hb2.mono hb1.size)).size)).size)).size)).size)).size)).size))⟩

set_option maxHeartbeats 4000000 in
theorem circles_all_s (w : World) (a b : Nat) (c : Nat) (ha : a ≤ 1000000000000) (hb : b ≤ 1000000000000) (x : Nat) (hx : circ (zeck a) (zeck b) = x) (hx1 : x ≤ 1000000000000) (hc : c ≤ 1000000000000) (z : Nat) (hz : circ (zeck b) (zeck c) = z) (hz1 : z ≤ 1000000000000) (p : Nat) (hp : circ (zeck x) (zeck c) = p) (hp1 : p ≤ 1000000000000) (hq : circ (zeck a) (zeck z) = p) (hs : sh a ≤ 1000000000000) (hss : sh a + a ≤ 1000000000000)  :
    Calls Try.prog 7 #[.int .i64 a, .int .i64 b, .int .i64 c] w fun e w' => e = .returned (.bool true) ∧ Below w.heap.size w w' := by
  have HX := Lib.hid hx; clear hx
  have HZ := Lib.hid hz; clear hz
  have HP := Lib.hid hp; clear hp
  have HQ := Lib.hid hq; clear hq
  have HS := Lib.hid hs; clear hs
  have HT := Lib.hid hss; clear hss
  go_enter Try.func7, Try.ntmps7
  go_wp2_with fail
  first | (with_reducible refine (Circle_ok a b x ha hb HX.out hx1 _).mono ?_) | refine (Circle_ok a b x ha hb HX.out hx1 _).mono ?_
  rintro e w1 ⟨rfl, hb1⟩
  go_wp2_with fail
  first | (with_reducible refine (Circle_ok b a x hb ha (by rw [circ_comm]; exact HX.out) hx1 _).mono ?_) | refine (Circle_ok b a x hb ha (by rw [circ_comm]; exact HX.out) hx1 _).mono ?_
  rintro e w2 ⟨rfl, hb2⟩
  go_wp2_with fail
  first | (with_reducible refine (Circle_ok x c p hx1 hc HP.out hp1 _).mono ?_) | refine (Circle_ok x c p hx1 hc HP.out hp1 _).mono ?_
  rintro e w3 ⟨rfl, hb3⟩
  go_wp2_with fail
  first | (with_reducible refine (Circle_ok b c z hb hc HZ.out hz1 _).mono ?_) | refine (Circle_ok b c z hb hc HZ.out hz1 _).mono ?_
  rintro e w4 ⟨rfl, hb4⟩
  go_wp2_with fail
  first | (with_reducible refine (Circle_ok a z p ha hz1 HQ.out hp1 _).mono ?_) | refine (Circle_ok a z p ha hz1 HQ.out hp1 _).mono ?_
  rintro e w5 ⟨rfl, hb5⟩
  go_wp2_with fail
  first | (with_reducible refine (Circle1_ok a (sh a + a) ha (circ_1 a ha) HT.out _).mono ?_) | refine (Circle1_ok a (sh a + a) ha (circ_1 a ha) HT.out _).mono ?_
  rintro e w6 ⟨rfl, hb6⟩
  go_wp2_with fail
  first | (with_reducible refine (Shift_yes a ha HS.out _).mono ?_) | refine (Shift_yes a ha HS.out _).mono ?_
  rintro e w7 ⟨rfl, hb7⟩
  go_wp2_with fail
  first | (with_reducible refine (Shift_val (sh a) (sh a + a) HS.out (sh_sh a ha HS.out) HT.out _).mono ?_) | refine (Shift_val (sh a) (sh a + a) HS.out (sh_sh a ha HS.out) HT.out _).mono ?_
  rintro e w8 ⟨rfl, hb8⟩
  go_wp2_with fail
  first | (with_reducible refine (awake_any _).mono ?_) | refine (awake_any _).mono ?_
  rintro e w9 ⟨rfl, hb9⟩
  go_wp2
  go_ret
  exact ⟨rfl, ((((((((hb1.trans (hb2.mono hb1.size)).trans (hb3.mono (hb1.trans (hb2.mono hb1.size)).size)).trans (hb4.mono ((hb1.trans (hb2.mono hb1.size)).trans (hb3.mono (hb1.trans (hb2.mono hb1.size)).size)).size)).trans (hb5.mono (((hb1.trans (hb2.mono hb1.size)).trans (hb3.mono (hb1.trans (hb2.mono hb1.size)).size)).trans (hb4.mono ((hb1.trans (hb2.mono hb1.size)).trans (hb3.mono (hb1.trans (hb2.mono hb1.size)).size)).size)).size)).trans (hb6.mono ((((hb1.trans (hb2.mono hb1.size)).trans (hb3.mono (hb1.trans (hb2.mono hb1.size)).size)).trans (hb4.mono ((hb1.trans (hb2.mono hb1.size)).trans (hb3.mono (hb1.trans (hb2.mono hb1.size)).size)).size)).trans (hb5.mono (((hb1.trans (hb2.mono hb1.size)).trans (hb3.mono (hb1.trans (hb2.mono hb1.size)).size)).trans (hb4.mono ((hb1.trans (hb2.mono hb1.size)).trans (hb3.mono (hb1.trans (hb2.mono hb1.size)).size)).size)).size)).size)).trans (hb7.mono (((((hb1.trans (hb2.mono hb1.size)).trans (hb3.mono (hb1.trans (hb2.mono hb1.size)).size)).trans (hb4.mono ((hb1.trans (hb2.mono hb1.size)).trans (hb3.mono (hb1.trans (hb2.mono hb1.size)).size)).size)).trans (hb5.mono (((hb1.trans (hb2.mono hb1.size)).trans (hb3.mono (hb1.trans (hb2.mono hb1.size)).size)).trans (hb4.mono ((hb1.trans (hb2.mono hb1.size)).trans (hb3.mono (hb1.trans (hb2.mono hb1.size)).size)).size)).size)).trans (hb6.mono ((((hb1.trans (hb2.mono hb1.size)).trans (hb3.mono (hb1.trans (hb2.mono hb1.size)).size)).trans (hb4.mono ((hb1.trans (hb2.mono hb1.size)).trans (hb3.mono (hb1.trans (hb2.mono hb1.size)).size)).size)).trans (hb5.mono (((hb1.trans (hb2.mono hb1.size)).trans (hb3.mono (hb1.trans (hb2.mono hb1.size)).size)).trans (hb4.mono ((hb1.trans (hb2.mono hb1.size)).trans (hb3.mono (hb1.trans (hb2.mono hb1.size)).size)).size)).size)).size)).size)).trans (hb8.mono ((((((hb1.trans (hb2.mono hb1.size)).trans (hb3.mono (hb1.trans (hb2.mono hb1.size)).size)).trans (hb4.mono ((hb1.trans (hb2.mono hb1.size)).trans (hb3.mono (hb1.trans (hb2.mono hb1.size)).size)).size)).trans (hb5.mono (((hb1.trans (hb2.mono hb1.size)).trans (hb3.mono (hb1.trans (hb2.mono hb1.size)).size)).trans (hb4.mono ((hb1.trans (hb2.mono hb1.size)).trans (hb3.mono (hb1.trans (hb2.mono hb1.size)).size)).size)).size)).trans (hb6.mono ((((hb1.trans (hb2.mono hb1.size)).trans (hb3.mono (hb1.trans (hb2.mono hb1.size)).size)).trans (hb4.mono ((hb1.trans (hb2.mono hb1.size)).trans (hb3.mono (hb1.trans (hb2.mono hb1.size)).size)).size)).trans (hb5.mono (((hb1.trans (hb2.mono hb1.size)).trans (hb3.mono (hb1.trans (hb2.mono hb1.size)).size)).trans (hb4.mono ((hb1.trans (hb2.mono hb1.size)).trans (hb3.mono (hb1.trans (hb2.mono hb1.size)).size)).size)).size)).size)).trans (hb7.mono (((((hb1.trans (hb2.mono hb1.size)).trans (hb3.mono (hb1.trans (hb2.mono hb1.size)).size)).trans (hb4.mono ((hb1.trans (hb2.mono hb1.size)).trans (hb3.mono (hb1.trans (hb2.mono hb1.size)).size)).size)).trans (hb5.mono (((hb1.trans (hb2.mono hb1.size)).trans (hb3.mono (hb1.trans (hb2.mono hb1.size)).size)).trans (hb4.mono ((hb1.trans (hb2.mono hb1.size)).trans (hb3.mono (hb1.trans (hb2.mono hb1.size)).size)).size)).size)).trans (hb6.mono ((((hb1.trans (hb2.mono hb1.size)).trans (hb3.mono (hb1.trans (hb2.mono hb1.size)).size)).trans (hb4.mono ((hb1.trans (hb2.mono hb1.size)).trans (hb3.mono (hb1.trans (hb2.mono hb1.size)).size)).size)).trans (hb5.mono (((hb1.trans (hb2.mono hb1.size)).trans (hb3.mono (hb1.trans (hb2.mono hb1.size)).size)).trans (hb4.mono ((hb1.trans (hb2.mono hb1.size)).trans (hb3.mono (hb1.trans (hb2.mono hb1.size)).size)).size)).size)).size)).size)).size)).trans (hb9.mono (((((((hb1.trans (hb2.mono hb1.size)).trans (hb3.mono (hb1.trans (hb2.mono hb1.size)).size)).trans (hb4.mono ((hb1.trans (hb2.mono hb1.size)).trans (hb3.mono (hb1.trans (hb2.mono hb1.size)).size)).size)).trans (hb5.mono (((hb1.trans (hb2.mono hb1.size)).trans (hb3.mono (hb1.trans (hb2.mono hb1.size)).size)).trans (hb4.mono ((hb1.trans (hb2.mono hb1.size)).trans (hb3.mono (hb1.trans (hb2.mono hb1.size)).size)).size)).size)).trans (hb6.mono ((((hb1.trans (hb2.mono hb1.size)).trans (hb3.mono (hb1.trans (hb2.mono hb1.size)).size)).trans (hb4.mono ((hb1.trans (hb2.mono hb1.size)).trans (hb3.mono (hb1.trans (hb2.mono hb1.size)).size)).size)).trans (hb5.mono (((hb1.trans (hb2.mono hb1.size)).trans (hb3.mono (hb1.trans (hb2.mono hb1.size)).size)).trans (hb4.mono ((hb1.trans (hb2.mono hb1.size)).trans (hb3.mono (hb1.trans (hb2.mono hb1.size)).size)).size)).size)).size)).trans (hb7.mono (((((hb1.trans (hb2.mono hb1.size)).trans (hb3.mono (hb1.trans (hb2.mono hb1.size)).size)).trans (hb4.mono ((hb1.trans (hb2.mono hb1.size)).trans (hb3.mono (hb1.trans (hb2.mono hb1.size)).size)).size)).trans (hb5.mono (((hb1.trans (hb2.mono hb1.size)).trans (hb3.mono (hb1.trans (hb2.mono hb1.size)).size)).trans (hb4.mono ((hb1.trans (hb2.mono hb1.size)).trans (hb3.mono (hb1.trans (hb2.mono hb1.size)).size)).size)).size)).trans (hb6.mono ((((hb1.trans (hb2.mono hb1.size)).trans (hb3.mono (hb1.trans (hb2.mono hb1.size)).size)).trans (hb4.mono ((hb1.trans (hb2.mono hb1.size)).trans (hb3.mono (hb1.trans (hb2.mono hb1.size)).size)).size)).trans (hb5.mono (((hb1.trans (hb2.mono hb1.size)).trans (hb3.mono (hb1.trans (hb2.mono hb1.size)).size)).trans (hb4.mono ((hb1.trans (hb2.mono hb1.size)).trans (hb3.mono (hb1.trans (hb2.mono hb1.size)).size)).size)).size)).size)).size)).trans (hb8.mono ((((((hb1.trans (hb2.mono hb1.size)).trans (hb3.mono (hb1.trans (hb2.mono hb1.size)).size)).trans (hb4.mono ((hb1.trans (hb2.mono hb1.size)).trans (hb3.mono (hb1.trans (hb2.mono hb1.size)).size)).size)).trans (hb5.mono (((hb1.trans (hb2.mono hb1.size)).trans (hb3.mono (hb1.trans (hb2.mono hb1.size)).size)).trans (hb4.mono ((hb1.trans (hb2.mono hb1.size)).trans (hb3.mono (hb1.trans (hb2.mono hb1.size)).size)).size)).size)).trans (hb6.mono ((((hb1.trans (hb2.mono hb1.size)).trans (hb3.mono (hb1.trans (hb2.mono hb1.size)).size)).trans (hb4.mono ((hb1.trans (hb2.mono hb1.size)).trans (hb3.mono (hb1.trans (hb2.mono hb1.size)).size)).size)).trans (hb5.mono (((hb1.trans (hb2.mono hb1.size)).trans (hb3.mono (hb1.trans (hb2.mono hb1.size)).size)).trans (hb4.mono ((hb1.trans (hb2.mono hb1.size)).trans (hb3.mono (hb1.trans (hb2.mono hb1.size)).size)).size)).size)).size)).trans (hb7.mono (((((hb1.trans (hb2.mono hb1.size)).trans (hb3.mono (hb1.trans (hb2.mono hb1.size)).size)).trans (hb4.mono ((hb1.trans (hb2.mono hb1.size)).trans (hb3.mono (hb1.trans (hb2.mono hb1.size)).size)).size)).trans (hb5.mono (((hb1.trans (hb2.mono hb1.size)).trans (hb3.mono (hb1.trans (hb2.mono hb1.size)).size)).trans (hb4.mono ((hb1.trans (hb2.mono hb1.size)).trans (hb3.mono (hb1.trans (hb2.mono hb1.size)).size)).size)).size)).trans (hb6.mono ((((hb1.trans (hb2.mono hb1.size)).trans (hb3.mono (hb1.trans (hb2.mono hb1.size)).size)).trans (hb4.mono ((hb1.trans (hb2.mono hb1.size)).trans (hb3.mono (hb1.trans (hb2.mono hb1.size)).size)).size)).trans (hb5.mono (((hb1.trans (hb2.mono hb1.size)).trans (hb3.mono (hb1.trans (hb2.mono hb1.size)).size)).trans (hb4.mono ((hb1.trans (hb2.mono hb1.size)).trans (hb3.mono (hb1.trans (hb2.mono hb1.size)).size)).size)).size)).size)).size)).size)).size))⟩

set_option maxHeartbeats 4000000 in
theorem circles_all_t (w : World) (a b : Nat) (c : Nat) (ha : a ≤ 1000000000000) (hb : b ≤ 1000000000000) (x : Nat) (hx : circ (zeck a) (zeck b) = x) (hx1 : x ≤ 1000000000000) (hc : c ≤ 1000000000000) (z : Nat) (hz : circ (zeck b) (zeck c) = z) (hz1 : z ≤ 1000000000000) (p : Nat) (hp : circ (zeck x) (zeck c) = p) (hp1 : p ≤ 1000000000000) (hq : circ (zeck a) (zeck z) = p) (hs : sh a ≤ 1000000000000) (hss : 1000000000000 < sh a + a)  :
    Calls Try.prog 7 #[.int .i64 a, .int .i64 b, .int .i64 c] w fun e w' => e = .returned (.bool true) ∧ Below w.heap.size w w' := by
  have HX := Lib.hid hx; clear hx
  have HZ := Lib.hid hz; clear hz
  have HP := Lib.hid hp; clear hp
  have HQ := Lib.hid hq; clear hq
  have HS := Lib.hid hs; clear hs
  have HT := Lib.hid hss; clear hss
  go_enter Try.func7, Try.ntmps7
  go_wp2_with fail
  first | (with_reducible refine (Circle_ok a b x ha hb HX.out hx1 _).mono ?_) | refine (Circle_ok a b x ha hb HX.out hx1 _).mono ?_
  rintro e w1 ⟨rfl, hb1⟩
  go_wp2_with fail
  first | (with_reducible refine (Circle_ok b a x hb ha (by rw [circ_comm]; exact HX.out) hx1 _).mono ?_) | refine (Circle_ok b a x hb ha (by rw [circ_comm]; exact HX.out) hx1 _).mono ?_
  rintro e w2 ⟨rfl, hb2⟩
  go_wp2_with fail
  first | (with_reducible refine (Circle_ok x c p hx1 hc HP.out hp1 _).mono ?_) | refine (Circle_ok x c p hx1 hc HP.out hp1 _).mono ?_
  rintro e w3 ⟨rfl, hb3⟩
  go_wp2_with fail
  first | (with_reducible refine (Circle_ok b c z hb hc HZ.out hz1 _).mono ?_) | refine (Circle_ok b c z hb hc HZ.out hz1 _).mono ?_
  rintro e w4 ⟨rfl, hb4⟩
  go_wp2_with fail
  first | (with_reducible refine (Circle_ok a z p ha hz1 HQ.out hp1 _).mono ?_) | refine (Circle_ok a z p ha hz1 HQ.out hp1 _).mono ?_
  rintro e w5 ⟨rfl, hb5⟩
  go_wp2_with fail
  first | (with_reducible refine (Circle1_big a ha (by rw [circ_1 a ha]; have := HT.out; omega) _).mono ?_) | refine (Circle1_big a ha (by rw [circ_1 a ha]; have := HT.out; omega) _).mono ?_
  rintro e w6 ⟨rfl, hb6⟩
  go_wp2_with fail
  first | (with_reducible refine (Shift_yes a ha HS.out _).mono ?_) | refine (Shift_yes a ha HS.out _).mono ?_
  rintro e w7 ⟨rfl, hb7⟩
  go_wp2_with fail
  first | (with_reducible refine (Shift_big (sh a) HS.out (by rw [sh_sh a ha HS.out]; exact HT.out) _).mono ?_) | refine (Shift_big (sh a) HS.out (by rw [sh_sh a ha HS.out]; exact HT.out) _).mono ?_
  rintro e w8 ⟨rfl, hb8⟩
  go_wp2_with fail
  first | (with_reducible refine (awake_any _).mono ?_) | refine (awake_any _).mono ?_
  rintro e w9 ⟨rfl, hb9⟩
  go_wp2
  go_ret
  exact ⟨rfl, ((((((((hb1.trans (hb2.mono hb1.size)).trans (hb3.mono (hb1.trans (hb2.mono hb1.size)).size)).trans (hb4.mono ((hb1.trans (hb2.mono hb1.size)).trans (hb3.mono (hb1.trans (hb2.mono hb1.size)).size)).size)).trans (hb5.mono (((hb1.trans (hb2.mono hb1.size)).trans (hb3.mono (hb1.trans (hb2.mono hb1.size)).size)).trans (hb4.mono ((hb1.trans (hb2.mono hb1.size)).trans (hb3.mono (hb1.trans (hb2.mono hb1.size)).size)).size)).size)).trans (hb6.mono ((((hb1.trans (hb2.mono hb1.size)).trans (hb3.mono (hb1.trans (hb2.mono hb1.size)).size)).trans (hb4.mono ((hb1.trans (hb2.mono hb1.size)).trans (hb3.mono (hb1.trans (hb2.mono hb1.size)).size)).size)).trans (hb5.mono (((hb1.trans (hb2.mono hb1.size)).trans (hb3.mono (hb1.trans (hb2.mono hb1.size)).size)).trans (hb4.mono ((hb1.trans (hb2.mono hb1.size)).trans (hb3.mono (hb1.trans (hb2.mono hb1.size)).size)).size)).size)).size)).trans (hb7.mono (((((hb1.trans (hb2.mono hb1.size)).trans (hb3.mono (hb1.trans (hb2.mono hb1.size)).size)).trans (hb4.mono ((hb1.trans (hb2.mono hb1.size)).trans (hb3.mono (hb1.trans (hb2.mono hb1.size)).size)).size)).trans (hb5.mono (((hb1.trans (hb2.mono hb1.size)).trans (hb3.mono (hb1.trans (hb2.mono hb1.size)).size)).trans (hb4.mono ((hb1.trans (hb2.mono hb1.size)).trans (hb3.mono (hb1.trans (hb2.mono hb1.size)).size)).size)).size)).trans (hb6.mono ((((hb1.trans (hb2.mono hb1.size)).trans (hb3.mono (hb1.trans (hb2.mono hb1.size)).size)).trans (hb4.mono ((hb1.trans (hb2.mono hb1.size)).trans (hb3.mono (hb1.trans (hb2.mono hb1.size)).size)).size)).trans (hb5.mono (((hb1.trans (hb2.mono hb1.size)).trans (hb3.mono (hb1.trans (hb2.mono hb1.size)).size)).trans (hb4.mono ((hb1.trans (hb2.mono hb1.size)).trans (hb3.mono (hb1.trans (hb2.mono hb1.size)).size)).size)).size)).size)).size)).trans (hb8.mono ((((((hb1.trans (hb2.mono hb1.size)).trans (hb3.mono (hb1.trans (hb2.mono hb1.size)).size)).trans (hb4.mono ((hb1.trans (hb2.mono hb1.size)).trans (hb3.mono (hb1.trans (hb2.mono hb1.size)).size)).size)).trans (hb5.mono (((hb1.trans (hb2.mono hb1.size)).trans (hb3.mono (hb1.trans (hb2.mono hb1.size)).size)).trans (hb4.mono ((hb1.trans (hb2.mono hb1.size)).trans (hb3.mono (hb1.trans (hb2.mono hb1.size)).size)).size)).size)).trans (hb6.mono ((((hb1.trans (hb2.mono hb1.size)).trans (hb3.mono (hb1.trans (hb2.mono hb1.size)).size)).trans (hb4.mono ((hb1.trans (hb2.mono hb1.size)).trans (hb3.mono (hb1.trans (hb2.mono hb1.size)).size)).size)).trans (hb5.mono (((hb1.trans (hb2.mono hb1.size)).trans (hb3.mono (hb1.trans (hb2.mono hb1.size)).size)).trans (hb4.mono ((hb1.trans (hb2.mono hb1.size)).trans (hb3.mono (hb1.trans (hb2.mono hb1.size)).size)).size)).size)).size)).trans (hb7.mono (((((hb1.trans (hb2.mono hb1.size)).trans (hb3.mono (hb1.trans (hb2.mono hb1.size)).size)).trans (hb4.mono ((hb1.trans (hb2.mono hb1.size)).trans (hb3.mono (hb1.trans (hb2.mono hb1.size)).size)).size)).trans (hb5.mono (((hb1.trans (hb2.mono hb1.size)).trans (hb3.mono (hb1.trans (hb2.mono hb1.size)).size)).trans (hb4.mono ((hb1.trans (hb2.mono hb1.size)).trans (hb3.mono (hb1.trans (hb2.mono hb1.size)).size)).size)).size)).trans (hb6.mono ((((hb1.trans (hb2.mono hb1.size)).trans (hb3.mono (hb1.trans (hb2.mono hb1.size)).size)).trans (hb4.mono ((hb1.trans (hb2.mono hb1.size)).trans (hb3.mono (hb1.trans (hb2.mono hb1.size)).size)).size)).trans (hb5.mono (((hb1.trans (hb2.mono hb1.size)).trans (hb3.mono (hb1.trans (hb2.mono hb1.size)).size)).trans (hb4.mono ((hb1.trans (hb2.mono hb1.size)).trans (hb3.mono (hb1.trans (hb2.mono hb1.size)).size)).size)).size)).size)).size)).size)).trans (hb9.mono (((((((hb1.trans (hb2.mono hb1.size)).trans (hb3.mono (hb1.trans (hb2.mono hb1.size)).size)).trans (hb4.mono ((hb1.trans (hb2.mono hb1.size)).trans (hb3.mono (hb1.trans (hb2.mono hb1.size)).size)).size)).trans (hb5.mono (((hb1.trans (hb2.mono hb1.size)).trans (hb3.mono (hb1.trans (hb2.mono hb1.size)).size)).trans (hb4.mono ((hb1.trans (hb2.mono hb1.size)).trans (hb3.mono (hb1.trans (hb2.mono hb1.size)).size)).size)).size)).trans (hb6.mono ((((hb1.trans (hb2.mono hb1.size)).trans (hb3.mono (hb1.trans (hb2.mono hb1.size)).size)).trans (hb4.mono ((hb1.trans (hb2.mono hb1.size)).trans (hb3.mono (hb1.trans (hb2.mono hb1.size)).size)).size)).trans (hb5.mono (((hb1.trans (hb2.mono hb1.size)).trans (hb3.mono (hb1.trans (hb2.mono hb1.size)).size)).trans (hb4.mono ((hb1.trans (hb2.mono hb1.size)).trans (hb3.mono (hb1.trans (hb2.mono hb1.size)).size)).size)).size)).size)).trans (hb7.mono (((((hb1.trans (hb2.mono hb1.size)).trans (hb3.mono (hb1.trans (hb2.mono hb1.size)).size)).trans (hb4.mono ((hb1.trans (hb2.mono hb1.size)).trans (hb3.mono (hb1.trans (hb2.mono hb1.size)).size)).size)).trans (hb5.mono (((hb1.trans (hb2.mono hb1.size)).trans (hb3.mono (hb1.trans (hb2.mono hb1.size)).size)).trans (hb4.mono ((hb1.trans (hb2.mono hb1.size)).trans (hb3.mono (hb1.trans (hb2.mono hb1.size)).size)).size)).size)).trans (hb6.mono ((((hb1.trans (hb2.mono hb1.size)).trans (hb3.mono (hb1.trans (hb2.mono hb1.size)).size)).trans (hb4.mono ((hb1.trans (hb2.mono hb1.size)).trans (hb3.mono (hb1.trans (hb2.mono hb1.size)).size)).size)).trans (hb5.mono (((hb1.trans (hb2.mono hb1.size)).trans (hb3.mono (hb1.trans (hb2.mono hb1.size)).size)).trans (hb4.mono ((hb1.trans (hb2.mono hb1.size)).trans (hb3.mono (hb1.trans (hb2.mono hb1.size)).size)).size)).size)).size)).size)).trans (hb8.mono ((((((hb1.trans (hb2.mono hb1.size)).trans (hb3.mono (hb1.trans (hb2.mono hb1.size)).size)).trans (hb4.mono ((hb1.trans (hb2.mono hb1.size)).trans (hb3.mono (hb1.trans (hb2.mono hb1.size)).size)).size)).trans (hb5.mono (((hb1.trans (hb2.mono hb1.size)).trans (hb3.mono (hb1.trans (hb2.mono hb1.size)).size)).trans (hb4.mono ((hb1.trans (hb2.mono hb1.size)).trans (hb3.mono (hb1.trans (hb2.mono hb1.size)).size)).size)).size)).trans (hb6.mono ((((hb1.trans (hb2.mono hb1.size)).trans (hb3.mono (hb1.trans (hb2.mono hb1.size)).size)).trans (hb4.mono ((hb1.trans (hb2.mono hb1.size)).trans (hb3.mono (hb1.trans (hb2.mono hb1.size)).size)).size)).trans (hb5.mono (((hb1.trans (hb2.mono hb1.size)).trans (hb3.mono (hb1.trans (hb2.mono hb1.size)).size)).trans (hb4.mono ((hb1.trans (hb2.mono hb1.size)).trans (hb3.mono (hb1.trans (hb2.mono hb1.size)).size)).size)).size)).size)).trans (hb7.mono (((((hb1.trans (hb2.mono hb1.size)).trans (hb3.mono (hb1.trans (hb2.mono hb1.size)).size)).trans (hb4.mono ((hb1.trans (hb2.mono hb1.size)).trans (hb3.mono (hb1.trans (hb2.mono hb1.size)).size)).size)).trans (hb5.mono (((hb1.trans (hb2.mono hb1.size)).trans (hb3.mono (hb1.trans (hb2.mono hb1.size)).size)).trans (hb4.mono ((hb1.trans (hb2.mono hb1.size)).trans (hb3.mono (hb1.trans (hb2.mono hb1.size)).size)).size)).size)).trans (hb6.mono ((((hb1.trans (hb2.mono hb1.size)).trans (hb3.mono (hb1.trans (hb2.mono hb1.size)).size)).trans (hb4.mono ((hb1.trans (hb2.mono hb1.size)).trans (hb3.mono (hb1.trans (hb2.mono hb1.size)).size)).size)).trans (hb5.mono (((hb1.trans (hb2.mono hb1.size)).trans (hb3.mono (hb1.trans (hb2.mono hb1.size)).size)).trans (hb4.mono ((hb1.trans (hb2.mono hb1.size)).trans (hb3.mono (hb1.trans (hb2.mono hb1.size)).size)).size)).size)).size)).size)).size)).size))⟩

set_option maxHeartbeats 4000000 in
theorem circles_zbadp_b (w : World) (a b : Nat) (c : Nat) (ha : a ≤ 1000000000000) (hb : b ≤ 1000000000000) (x : Nat) (hx : circ (zeck a) (zeck b) = x) (hx1 : x ≤ 1000000000000) (hc : c ≤ 1000000000000) (hz : ¬ circ (zeck b) (zeck c) ≤ 1000000000000) (p : Nat) (hp : circ (zeck x) (zeck c) = p) (hp1 : p ≤ 1000000000000) (hs : 1000000000000 < sh a)  :
    Calls Try.prog 7 #[.int .i64 a, .int .i64 b, .int .i64 c] w fun e w' => e = .returned (.bool true) ∧ Below w.heap.size w w' := by
  have HX := Lib.hid hx; clear hx
  have HZ := Lib.hid hz; clear hz
  have HP := Lib.hid hp; clear hp
  have HS := Lib.hid hs; clear hs
  go_enter Try.func7, Try.ntmps7
  go_wp2_with fail
  first | (with_reducible refine (Circle_ok a b x ha hb HX.out hx1 _).mono ?_) | refine (Circle_ok a b x ha hb HX.out hx1 _).mono ?_
  rintro e w1 ⟨rfl, hb1⟩
  go_wp2_with fail
  first | (with_reducible refine (Circle_ok b a x hb ha (by rw [circ_comm]; exact HX.out) hx1 _).mono ?_) | refine (Circle_ok b a x hb ha (by rw [circ_comm]; exact HX.out) hx1 _).mono ?_
  rintro e w2 ⟨rfl, hb2⟩
  go_wp2_with fail
  first | (with_reducible refine (Circle_ok x c p hx1 hc HP.out hp1 _).mono ?_) | refine (Circle_ok x c p hx1 hc HP.out hp1 _).mono ?_
  rintro e w3 ⟨rfl, hb3⟩
  go_wp2_with fail
  first | (with_reducible refine (Circle_big b c hb hc HZ.out _).mono ?_) | refine (Circle_big b c hb hc HZ.out _).mono ?_
  rintro e w4 ⟨rfl, hb4⟩
  go_wp2_with fail
  first | (with_reducible refine (Circle1_big a ha (by rw [circ_1 a ha]; have := HS.out; omega) _).mono ?_) | refine (Circle1_big a ha (by rw [circ_1 a ha]; have := HS.out; omega) _).mono ?_
  rintro e w5 ⟨rfl, hb5⟩
  go_wp2_with fail
  first | (with_reducible refine (Shift_big a ha HS.out _).mono ?_) | refine (Shift_big a ha HS.out _).mono ?_
  rintro e w6 ⟨rfl, hb6⟩
  go_wp2_with fail
  first | (with_reducible refine (awake_any _).mono ?_) | refine (awake_any _).mono ?_
  rintro e w7 ⟨rfl, hb7⟩
  go_wp2
  go_ret
  exact ⟨rfl, ((((((hb1.trans (hb2.mono hb1.size)).trans (hb3.mono (hb1.trans (hb2.mono hb1.size)).size)).trans (hb4.mono ((hb1.trans (hb2.mono hb1.size)).trans (hb3.mono (hb1.trans (hb2.mono hb1.size)).size)).size)).trans (hb5.mono (((hb1.trans (hb2.mono hb1.size)).trans (hb3.mono (hb1.trans (hb2.mono hb1.size)).size)).trans (hb4.mono ((hb1.trans (hb2.mono hb1.size)).trans (hb3.mono (hb1.trans (hb2.mono hb1.size)).size)).size)).size)).trans (hb6.mono ((((hb1.trans (hb2.mono hb1.size)).trans (hb3.mono (hb1.trans (hb2.mono hb1.size)).size)).trans (hb4.mono ((hb1.trans (hb2.mono hb1.size)).trans (hb3.mono (hb1.trans (hb2.mono hb1.size)).size)).size)).trans (hb5.mono (((hb1.trans (hb2.mono hb1.size)).trans (hb3.mono (hb1.trans (hb2.mono hb1.size)).size)).trans (hb4.mono ((hb1.trans (hb2.mono hb1.size)).trans (hb3.mono (hb1.trans (hb2.mono hb1.size)).size)).size)).size)).size)).trans (hb7.mono (((((hb1.trans (hb2.mono hb1.size)).trans (hb3.mono (hb1.trans (hb2.mono hb1.size)).size)).trans (hb4.mono ((hb1.trans (hb2.mono hb1.size)).trans (hb3.mono (hb1.trans (hb2.mono hb1.size)).size)).size)).trans (hb5.mono (((hb1.trans (hb2.mono hb1.size)).trans (hb3.mono (hb1.trans (hb2.mono hb1.size)).size)).trans (hb4.mono ((hb1.trans (hb2.mono hb1.size)).trans (hb3.mono (hb1.trans (hb2.mono hb1.size)).size)).size)).size)).trans (hb6.mono ((((hb1.trans (hb2.mono hb1.size)).trans (hb3.mono (hb1.trans (hb2.mono hb1.size)).size)).trans (hb4.mono ((hb1.trans (hb2.mono hb1.size)).trans (hb3.mono (hb1.trans (hb2.mono hb1.size)).size)).size)).trans (hb5.mono (((hb1.trans (hb2.mono hb1.size)).trans (hb3.mono (hb1.trans (hb2.mono hb1.size)).size)).trans (hb4.mono ((hb1.trans (hb2.mono hb1.size)).trans (hb3.mono (hb1.trans (hb2.mono hb1.size)).size)).size)).size)).size)).size))⟩

set_option maxHeartbeats 4000000 in
theorem circles_zbadp_s (w : World) (a b : Nat) (c : Nat) (ha : a ≤ 1000000000000) (hb : b ≤ 1000000000000) (x : Nat) (hx : circ (zeck a) (zeck b) = x) (hx1 : x ≤ 1000000000000) (hc : c ≤ 1000000000000) (hz : ¬ circ (zeck b) (zeck c) ≤ 1000000000000) (p : Nat) (hp : circ (zeck x) (zeck c) = p) (hp1 : p ≤ 1000000000000) (hs : sh a ≤ 1000000000000) (hss : sh a + a ≤ 1000000000000)  :
    Calls Try.prog 7 #[.int .i64 a, .int .i64 b, .int .i64 c] w fun e w' => e = .returned (.bool true) ∧ Below w.heap.size w w' := by
  have HX := Lib.hid hx; clear hx
  have HZ := Lib.hid hz; clear hz
  have HP := Lib.hid hp; clear hp
  have HS := Lib.hid hs; clear hs
  have HT := Lib.hid hss; clear hss
  go_enter Try.func7, Try.ntmps7
  go_wp2_with fail
  first | (with_reducible refine (Circle_ok a b x ha hb HX.out hx1 _).mono ?_) | refine (Circle_ok a b x ha hb HX.out hx1 _).mono ?_
  rintro e w1 ⟨rfl, hb1⟩
  go_wp2_with fail
  first | (with_reducible refine (Circle_ok b a x hb ha (by rw [circ_comm]; exact HX.out) hx1 _).mono ?_) | refine (Circle_ok b a x hb ha (by rw [circ_comm]; exact HX.out) hx1 _).mono ?_
  rintro e w2 ⟨rfl, hb2⟩
  go_wp2_with fail
  first | (with_reducible refine (Circle_ok x c p hx1 hc HP.out hp1 _).mono ?_) | refine (Circle_ok x c p hx1 hc HP.out hp1 _).mono ?_
  rintro e w3 ⟨rfl, hb3⟩
  go_wp2_with fail
  first | (with_reducible refine (Circle_big b c hb hc HZ.out _).mono ?_) | refine (Circle_big b c hb hc HZ.out _).mono ?_
  rintro e w4 ⟨rfl, hb4⟩
  go_wp2_with fail
  first | (with_reducible refine (Circle1_ok a (sh a + a) ha (circ_1 a ha) HT.out _).mono ?_) | refine (Circle1_ok a (sh a + a) ha (circ_1 a ha) HT.out _).mono ?_
  rintro e w5 ⟨rfl, hb5⟩
  go_wp2_with fail
  first | (with_reducible refine (Shift_yes a ha HS.out _).mono ?_) | refine (Shift_yes a ha HS.out _).mono ?_
  rintro e w6 ⟨rfl, hb6⟩
  go_wp2_with fail
  first | (with_reducible refine (Shift_val (sh a) (sh a + a) HS.out (sh_sh a ha HS.out) HT.out _).mono ?_) | refine (Shift_val (sh a) (sh a + a) HS.out (sh_sh a ha HS.out) HT.out _).mono ?_
  rintro e w7 ⟨rfl, hb7⟩
  go_wp2_with fail
  first | (with_reducible refine (awake_any _).mono ?_) | refine (awake_any _).mono ?_
  rintro e w8 ⟨rfl, hb8⟩
  go_wp2
  go_ret
  exact ⟨rfl, (((((((hb1.trans (hb2.mono hb1.size)).trans (hb3.mono (hb1.trans (hb2.mono hb1.size)).size)).trans (hb4.mono ((hb1.trans (hb2.mono hb1.size)).trans (hb3.mono (hb1.trans (hb2.mono hb1.size)).size)).size)).trans (hb5.mono (((hb1.trans (hb2.mono hb1.size)).trans (hb3.mono (hb1.trans (hb2.mono hb1.size)).size)).trans (hb4.mono ((hb1.trans (hb2.mono hb1.size)).trans (hb3.mono (hb1.trans (hb2.mono hb1.size)).size)).size)).size)).trans (hb6.mono ((((hb1.trans (hb2.mono hb1.size)).trans (hb3.mono (hb1.trans (hb2.mono hb1.size)).size)).trans (hb4.mono ((hb1.trans (hb2.mono hb1.size)).trans (hb3.mono (hb1.trans (hb2.mono hb1.size)).size)).size)).trans (hb5.mono (((hb1.trans (hb2.mono hb1.size)).trans (hb3.mono (hb1.trans (hb2.mono hb1.size)).size)).trans (hb4.mono ((hb1.trans (hb2.mono hb1.size)).trans (hb3.mono (hb1.trans (hb2.mono hb1.size)).size)).size)).size)).size)).trans (hb7.mono (((((hb1.trans (hb2.mono hb1.size)).trans (hb3.mono (hb1.trans (hb2.mono hb1.size)).size)).trans (hb4.mono ((hb1.trans (hb2.mono hb1.size)).trans (hb3.mono (hb1.trans (hb2.mono hb1.size)).size)).size)).trans (hb5.mono (((hb1.trans (hb2.mono hb1.size)).trans (hb3.mono (hb1.trans (hb2.mono hb1.size)).size)).trans (hb4.mono ((hb1.trans (hb2.mono hb1.size)).trans (hb3.mono (hb1.trans (hb2.mono hb1.size)).size)).size)).size)).trans (hb6.mono ((((hb1.trans (hb2.mono hb1.size)).trans (hb3.mono (hb1.trans (hb2.mono hb1.size)).size)).trans (hb4.mono ((hb1.trans (hb2.mono hb1.size)).trans (hb3.mono (hb1.trans (hb2.mono hb1.size)).size)).size)).trans (hb5.mono (((hb1.trans (hb2.mono hb1.size)).trans (hb3.mono (hb1.trans (hb2.mono hb1.size)).size)).trans (hb4.mono ((hb1.trans (hb2.mono hb1.size)).trans (hb3.mono (hb1.trans (hb2.mono hb1.size)).size)).size)).size)).size)).size)).trans (hb8.mono ((((((hb1.trans (hb2.mono hb1.size)).trans (hb3.mono (hb1.trans (hb2.mono hb1.size)).size)).trans (hb4.mono ((hb1.trans (hb2.mono hb1.size)).trans (hb3.mono (hb1.trans (hb2.mono hb1.size)).size)).size)).trans (hb5.mono (((hb1.trans (hb2.mono hb1.size)).trans (hb3.mono (hb1.trans (hb2.mono hb1.size)).size)).trans (hb4.mono ((hb1.trans (hb2.mono hb1.size)).trans (hb3.mono (hb1.trans (hb2.mono hb1.size)).size)).size)).size)).trans (hb6.mono ((((hb1.trans (hb2.mono hb1.size)).trans (hb3.mono (hb1.trans (hb2.mono hb1.size)).size)).trans (hb4.mono ((hb1.trans (hb2.mono hb1.size)).trans (hb3.mono (hb1.trans (hb2.mono hb1.size)).size)).size)).trans (hb5.mono (((hb1.trans (hb2.mono hb1.size)).trans (hb3.mono (hb1.trans (hb2.mono hb1.size)).size)).trans (hb4.mono ((hb1.trans (hb2.mono hb1.size)).trans (hb3.mono (hb1.trans (hb2.mono hb1.size)).size)).size)).size)).size)).trans (hb7.mono (((((hb1.trans (hb2.mono hb1.size)).trans (hb3.mono (hb1.trans (hb2.mono hb1.size)).size)).trans (hb4.mono ((hb1.trans (hb2.mono hb1.size)).trans (hb3.mono (hb1.trans (hb2.mono hb1.size)).size)).size)).trans (hb5.mono (((hb1.trans (hb2.mono hb1.size)).trans (hb3.mono (hb1.trans (hb2.mono hb1.size)).size)).trans (hb4.mono ((hb1.trans (hb2.mono hb1.size)).trans (hb3.mono (hb1.trans (hb2.mono hb1.size)).size)).size)).size)).trans (hb6.mono ((((hb1.trans (hb2.mono hb1.size)).trans (hb3.mono (hb1.trans (hb2.mono hb1.size)).size)).trans (hb4.mono ((hb1.trans (hb2.mono hb1.size)).trans (hb3.mono (hb1.trans (hb2.mono hb1.size)).size)).size)).trans (hb5.mono (((hb1.trans (hb2.mono hb1.size)).trans (hb3.mono (hb1.trans (hb2.mono hb1.size)).size)).trans (hb4.mono ((hb1.trans (hb2.mono hb1.size)).trans (hb3.mono (hb1.trans (hb2.mono hb1.size)).size)).size)).size)).size)).size)).size))⟩

set_option maxHeartbeats 4000000 in
theorem circles_zbadp_t (w : World) (a b : Nat) (c : Nat) (ha : a ≤ 1000000000000) (hb : b ≤ 1000000000000) (x : Nat) (hx : circ (zeck a) (zeck b) = x) (hx1 : x ≤ 1000000000000) (hc : c ≤ 1000000000000) (hz : ¬ circ (zeck b) (zeck c) ≤ 1000000000000) (p : Nat) (hp : circ (zeck x) (zeck c) = p) (hp1 : p ≤ 1000000000000) (hs : sh a ≤ 1000000000000) (hss : 1000000000000 < sh a + a)  :
    Calls Try.prog 7 #[.int .i64 a, .int .i64 b, .int .i64 c] w fun e w' => e = .returned (.bool true) ∧ Below w.heap.size w w' := by
  have HX := Lib.hid hx; clear hx
  have HZ := Lib.hid hz; clear hz
  have HP := Lib.hid hp; clear hp
  have HS := Lib.hid hs; clear hs
  have HT := Lib.hid hss; clear hss
  go_enter Try.func7, Try.ntmps7
  go_wp2_with fail
  first | (with_reducible refine (Circle_ok a b x ha hb HX.out hx1 _).mono ?_) | refine (Circle_ok a b x ha hb HX.out hx1 _).mono ?_
  rintro e w1 ⟨rfl, hb1⟩
  go_wp2_with fail
  first | (with_reducible refine (Circle_ok b a x hb ha (by rw [circ_comm]; exact HX.out) hx1 _).mono ?_) | refine (Circle_ok b a x hb ha (by rw [circ_comm]; exact HX.out) hx1 _).mono ?_
  rintro e w2 ⟨rfl, hb2⟩
  go_wp2_with fail
  first | (with_reducible refine (Circle_ok x c p hx1 hc HP.out hp1 _).mono ?_) | refine (Circle_ok x c p hx1 hc HP.out hp1 _).mono ?_
  rintro e w3 ⟨rfl, hb3⟩
  go_wp2_with fail
  first | (with_reducible refine (Circle_big b c hb hc HZ.out _).mono ?_) | refine (Circle_big b c hb hc HZ.out _).mono ?_
  rintro e w4 ⟨rfl, hb4⟩
  go_wp2_with fail
  first | (with_reducible refine (Circle1_big a ha (by rw [circ_1 a ha]; have := HT.out; omega) _).mono ?_) | refine (Circle1_big a ha (by rw [circ_1 a ha]; have := HT.out; omega) _).mono ?_
  rintro e w5 ⟨rfl, hb5⟩
  go_wp2_with fail
  first | (with_reducible refine (Shift_yes a ha HS.out _).mono ?_) | refine (Shift_yes a ha HS.out _).mono ?_
  rintro e w6 ⟨rfl, hb6⟩
  go_wp2_with fail
  first | (with_reducible refine (Shift_big (sh a) HS.out (by rw [sh_sh a ha HS.out]; exact HT.out) _).mono ?_) | refine (Shift_big (sh a) HS.out (by rw [sh_sh a ha HS.out]; exact HT.out) _).mono ?_
  rintro e w7 ⟨rfl, hb7⟩
  go_wp2_with fail
  first | (with_reducible refine (awake_any _).mono ?_) | refine (awake_any _).mono ?_
  rintro e w8 ⟨rfl, hb8⟩
  go_wp2
  go_ret
  exact ⟨rfl, (((((((hb1.trans (hb2.mono hb1.size)).trans (hb3.mono (hb1.trans (hb2.mono hb1.size)).size)).trans (hb4.mono ((hb1.trans (hb2.mono hb1.size)).trans (hb3.mono (hb1.trans (hb2.mono hb1.size)).size)).size)).trans (hb5.mono (((hb1.trans (hb2.mono hb1.size)).trans (hb3.mono (hb1.trans (hb2.mono hb1.size)).size)).trans (hb4.mono ((hb1.trans (hb2.mono hb1.size)).trans (hb3.mono (hb1.trans (hb2.mono hb1.size)).size)).size)).size)).trans (hb6.mono ((((hb1.trans (hb2.mono hb1.size)).trans (hb3.mono (hb1.trans (hb2.mono hb1.size)).size)).trans (hb4.mono ((hb1.trans (hb2.mono hb1.size)).trans (hb3.mono (hb1.trans (hb2.mono hb1.size)).size)).size)).trans (hb5.mono (((hb1.trans (hb2.mono hb1.size)).trans (hb3.mono (hb1.trans (hb2.mono hb1.size)).size)).trans (hb4.mono ((hb1.trans (hb2.mono hb1.size)).trans (hb3.mono (hb1.trans (hb2.mono hb1.size)).size)).size)).size)).size)).trans (hb7.mono (((((hb1.trans (hb2.mono hb1.size)).trans (hb3.mono (hb1.trans (hb2.mono hb1.size)).size)).trans (hb4.mono ((hb1.trans (hb2.mono hb1.size)).trans (hb3.mono (hb1.trans (hb2.mono hb1.size)).size)).size)).trans (hb5.mono (((hb1.trans (hb2.mono hb1.size)).trans (hb3.mono (hb1.trans (hb2.mono hb1.size)).size)).trans (hb4.mono ((hb1.trans (hb2.mono hb1.size)).trans (hb3.mono (hb1.trans (hb2.mono hb1.size)).size)).size)).size)).trans (hb6.mono ((((hb1.trans (hb2.mono hb1.size)).trans (hb3.mono (hb1.trans (hb2.mono hb1.size)).size)).trans (hb4.mono ((hb1.trans (hb2.mono hb1.size)).trans (hb3.mono (hb1.trans (hb2.mono hb1.size)).size)).size)).trans (hb5.mono (((hb1.trans (hb2.mono hb1.size)).trans (hb3.mono (hb1.trans (hb2.mono hb1.size)).size)).trans (hb4.mono ((hb1.trans (hb2.mono hb1.size)).trans (hb3.mono (hb1.trans (hb2.mono hb1.size)).size)).size)).size)).size)).size)).trans (hb8.mono ((((((hb1.trans (hb2.mono hb1.size)).trans (hb3.mono (hb1.trans (hb2.mono hb1.size)).size)).trans (hb4.mono ((hb1.trans (hb2.mono hb1.size)).trans (hb3.mono (hb1.trans (hb2.mono hb1.size)).size)).size)).trans (hb5.mono (((hb1.trans (hb2.mono hb1.size)).trans (hb3.mono (hb1.trans (hb2.mono hb1.size)).size)).trans (hb4.mono ((hb1.trans (hb2.mono hb1.size)).trans (hb3.mono (hb1.trans (hb2.mono hb1.size)).size)).size)).size)).trans (hb6.mono ((((hb1.trans (hb2.mono hb1.size)).trans (hb3.mono (hb1.trans (hb2.mono hb1.size)).size)).trans (hb4.mono ((hb1.trans (hb2.mono hb1.size)).trans (hb3.mono (hb1.trans (hb2.mono hb1.size)).size)).size)).trans (hb5.mono (((hb1.trans (hb2.mono hb1.size)).trans (hb3.mono (hb1.trans (hb2.mono hb1.size)).size)).trans (hb4.mono ((hb1.trans (hb2.mono hb1.size)).trans (hb3.mono (hb1.trans (hb2.mono hb1.size)).size)).size)).size)).size)).trans (hb7.mono (((((hb1.trans (hb2.mono hb1.size)).trans (hb3.mono (hb1.trans (hb2.mono hb1.size)).size)).trans (hb4.mono ((hb1.trans (hb2.mono hb1.size)).trans (hb3.mono (hb1.trans (hb2.mono hb1.size)).size)).size)).trans (hb5.mono (((hb1.trans (hb2.mono hb1.size)).trans (hb3.mono (hb1.trans (hb2.mono hb1.size)).size)).trans (hb4.mono ((hb1.trans (hb2.mono hb1.size)).trans (hb3.mono (hb1.trans (hb2.mono hb1.size)).size)).size)).size)).trans (hb6.mono ((((hb1.trans (hb2.mono hb1.size)).trans (hb3.mono (hb1.trans (hb2.mono hb1.size)).size)).trans (hb4.mono ((hb1.trans (hb2.mono hb1.size)).trans (hb3.mono (hb1.trans (hb2.mono hb1.size)).size)).size)).trans (hb5.mono (((hb1.trans (hb2.mono hb1.size)).trans (hb3.mono (hb1.trans (hb2.mono hb1.size)).size)).trans (hb4.mono ((hb1.trans (hb2.mono hb1.size)).trans (hb3.mono (hb1.trans (hb2.mono hb1.size)).size)).size)).size)).size)).size)).size))⟩

set_option maxHeartbeats 4000000 in
theorem circles_zbadb_b (w : World) (a b : Nat) (c : Nat) (ha : a ≤ 1000000000000) (hb : b ≤ 1000000000000) (x : Nat) (hx : circ (zeck a) (zeck b) = x) (hx1 : x ≤ 1000000000000) (hc : c ≤ 1000000000000) (hz : ¬ circ (zeck b) (zeck c) ≤ 1000000000000) (hp : ¬ circ (zeck x) (zeck c) ≤ 1000000000000) (hs : 1000000000000 < sh a)  :
    Calls Try.prog 7 #[.int .i64 a, .int .i64 b, .int .i64 c] w fun e w' => e = .returned (.bool true) ∧ Below w.heap.size w w' := by
  have HX := Lib.hid hx; clear hx
  have HZ := Lib.hid hz; clear hz
  have HP := Lib.hid hp; clear hp
  have HS := Lib.hid hs; clear hs
  go_enter Try.func7, Try.ntmps7
  go_wp2_with fail
  first | (with_reducible refine (Circle_ok a b x ha hb HX.out hx1 _).mono ?_) | refine (Circle_ok a b x ha hb HX.out hx1 _).mono ?_
  rintro e w1 ⟨rfl, hb1⟩
  go_wp2_with fail
  first | (with_reducible refine (Circle_ok b a x hb ha (by rw [circ_comm]; exact HX.out) hx1 _).mono ?_) | refine (Circle_ok b a x hb ha (by rw [circ_comm]; exact HX.out) hx1 _).mono ?_
  rintro e w2 ⟨rfl, hb2⟩
  go_wp2_with fail
  first | (with_reducible refine (Circle_big x c hx1 hc HP.out _).mono ?_) | refine (Circle_big x c hx1 hc HP.out _).mono ?_
  rintro e w3 ⟨rfl, hb3⟩
  go_wp2_with fail
  first | (with_reducible refine (Circle_big b c hb hc HZ.out _).mono ?_) | refine (Circle_big b c hb hc HZ.out _).mono ?_
  rintro e w4 ⟨rfl, hb4⟩
  go_wp2_with fail
  first | (with_reducible refine (Circle1_big a ha (by rw [circ_1 a ha]; have := HS.out; omega) _).mono ?_) | refine (Circle1_big a ha (by rw [circ_1 a ha]; have := HS.out; omega) _).mono ?_
  rintro e w5 ⟨rfl, hb5⟩
  go_wp2_with fail
  first | (with_reducible refine (Shift_big a ha HS.out _).mono ?_) | refine (Shift_big a ha HS.out _).mono ?_
  rintro e w6 ⟨rfl, hb6⟩
  go_wp2_with fail
  first | (with_reducible refine (awake_any _).mono ?_) | refine (awake_any _).mono ?_
  rintro e w7 ⟨rfl, hb7⟩
  go_wp2
  go_ret
  exact ⟨rfl, ((((((hb1.trans (hb2.mono hb1.size)).trans (hb3.mono (hb1.trans (hb2.mono hb1.size)).size)).trans (hb4.mono ((hb1.trans (hb2.mono hb1.size)).trans (hb3.mono (hb1.trans (hb2.mono hb1.size)).size)).size)).trans (hb5.mono (((hb1.trans (hb2.mono hb1.size)).trans (hb3.mono (hb1.trans (hb2.mono hb1.size)).size)).trans (hb4.mono ((hb1.trans (hb2.mono hb1.size)).trans (hb3.mono (hb1.trans (hb2.mono hb1.size)).size)).size)).size)).trans (hb6.mono ((((hb1.trans (hb2.mono hb1.size)).trans (hb3.mono (hb1.trans (hb2.mono hb1.size)).size)).trans (hb4.mono ((hb1.trans (hb2.mono hb1.size)).trans (hb3.mono (hb1.trans (hb2.mono hb1.size)).size)).size)).trans (hb5.mono (((hb1.trans (hb2.mono hb1.size)).trans (hb3.mono (hb1.trans (hb2.mono hb1.size)).size)).trans (hb4.mono ((hb1.trans (hb2.mono hb1.size)).trans (hb3.mono (hb1.trans (hb2.mono hb1.size)).size)).size)).size)).size)).trans (hb7.mono (((((hb1.trans (hb2.mono hb1.size)).trans (hb3.mono (hb1.trans (hb2.mono hb1.size)).size)).trans (hb4.mono ((hb1.trans (hb2.mono hb1.size)).trans (hb3.mono (hb1.trans (hb2.mono hb1.size)).size)).size)).trans (hb5.mono (((hb1.trans (hb2.mono hb1.size)).trans (hb3.mono (hb1.trans (hb2.mono hb1.size)).size)).trans (hb4.mono ((hb1.trans (hb2.mono hb1.size)).trans (hb3.mono (hb1.trans (hb2.mono hb1.size)).size)).size)).size)).trans (hb6.mono ((((hb1.trans (hb2.mono hb1.size)).trans (hb3.mono (hb1.trans (hb2.mono hb1.size)).size)).trans (hb4.mono ((hb1.trans (hb2.mono hb1.size)).trans (hb3.mono (hb1.trans (hb2.mono hb1.size)).size)).size)).trans (hb5.mono (((hb1.trans (hb2.mono hb1.size)).trans (hb3.mono (hb1.trans (hb2.mono hb1.size)).size)).trans (hb4.mono ((hb1.trans (hb2.mono hb1.size)).trans (hb3.mono (hb1.trans (hb2.mono hb1.size)).size)).size)).size)).size)).size))⟩

set_option maxHeartbeats 4000000 in
theorem circles_zbadb_s (w : World) (a b : Nat) (c : Nat) (ha : a ≤ 1000000000000) (hb : b ≤ 1000000000000) (x : Nat) (hx : circ (zeck a) (zeck b) = x) (hx1 : x ≤ 1000000000000) (hc : c ≤ 1000000000000) (hz : ¬ circ (zeck b) (zeck c) ≤ 1000000000000) (hp : ¬ circ (zeck x) (zeck c) ≤ 1000000000000) (hs : sh a ≤ 1000000000000) (hss : sh a + a ≤ 1000000000000)  :
    Calls Try.prog 7 #[.int .i64 a, .int .i64 b, .int .i64 c] w fun e w' => e = .returned (.bool true) ∧ Below w.heap.size w w' := by
  have HX := Lib.hid hx; clear hx
  have HZ := Lib.hid hz; clear hz
  have HP := Lib.hid hp; clear hp
  have HS := Lib.hid hs; clear hs
  have HT := Lib.hid hss; clear hss
  go_enter Try.func7, Try.ntmps7
  go_wp2_with fail
  first | (with_reducible refine (Circle_ok a b x ha hb HX.out hx1 _).mono ?_) | refine (Circle_ok a b x ha hb HX.out hx1 _).mono ?_
  rintro e w1 ⟨rfl, hb1⟩
  go_wp2_with fail
  first | (with_reducible refine (Circle_ok b a x hb ha (by rw [circ_comm]; exact HX.out) hx1 _).mono ?_) | refine (Circle_ok b a x hb ha (by rw [circ_comm]; exact HX.out) hx1 _).mono ?_
  rintro e w2 ⟨rfl, hb2⟩
  go_wp2_with fail
  first | (with_reducible refine (Circle_big x c hx1 hc HP.out _).mono ?_) | refine (Circle_big x c hx1 hc HP.out _).mono ?_
  rintro e w3 ⟨rfl, hb3⟩
  go_wp2_with fail
  first | (with_reducible refine (Circle_big b c hb hc HZ.out _).mono ?_) | refine (Circle_big b c hb hc HZ.out _).mono ?_
  rintro e w4 ⟨rfl, hb4⟩
  go_wp2_with fail
  first | (with_reducible refine (Circle1_ok a (sh a + a) ha (circ_1 a ha) HT.out _).mono ?_) | refine (Circle1_ok a (sh a + a) ha (circ_1 a ha) HT.out _).mono ?_
  rintro e w5 ⟨rfl, hb5⟩
  go_wp2_with fail
  first | (with_reducible refine (Shift_yes a ha HS.out _).mono ?_) | refine (Shift_yes a ha HS.out _).mono ?_
  rintro e w6 ⟨rfl, hb6⟩
  go_wp2_with fail
  first | (with_reducible refine (Shift_val (sh a) (sh a + a) HS.out (sh_sh a ha HS.out) HT.out _).mono ?_) | refine (Shift_val (sh a) (sh a + a) HS.out (sh_sh a ha HS.out) HT.out _).mono ?_
  rintro e w7 ⟨rfl, hb7⟩
  go_wp2_with fail
  first | (with_reducible refine (awake_any _).mono ?_) | refine (awake_any _).mono ?_
  rintro e w8 ⟨rfl, hb8⟩
  go_wp2
  go_ret
  exact ⟨rfl, (((((((hb1.trans (hb2.mono hb1.size)).trans (hb3.mono (hb1.trans (hb2.mono hb1.size)).size)).trans (hb4.mono ((hb1.trans (hb2.mono hb1.size)).trans (hb3.mono (hb1.trans (hb2.mono hb1.size)).size)).size)).trans (hb5.mono (((hb1.trans (hb2.mono hb1.size)).trans (hb3.mono (hb1.trans (hb2.mono hb1.size)).size)).trans (hb4.mono ((hb1.trans (hb2.mono hb1.size)).trans (hb3.mono (hb1.trans (hb2.mono hb1.size)).size)).size)).size)).trans (hb6.mono ((((hb1.trans (hb2.mono hb1.size)).trans (hb3.mono (hb1.trans (hb2.mono hb1.size)).size)).trans (hb4.mono ((hb1.trans (hb2.mono hb1.size)).trans (hb3.mono (hb1.trans (hb2.mono hb1.size)).size)).size)).trans (hb5.mono (((hb1.trans (hb2.mono hb1.size)).trans (hb3.mono (hb1.trans (hb2.mono hb1.size)).size)).trans (hb4.mono ((hb1.trans (hb2.mono hb1.size)).trans (hb3.mono (hb1.trans (hb2.mono hb1.size)).size)).size)).size)).size)).trans (hb7.mono (((((hb1.trans (hb2.mono hb1.size)).trans (hb3.mono (hb1.trans (hb2.mono hb1.size)).size)).trans (hb4.mono ((hb1.trans (hb2.mono hb1.size)).trans (hb3.mono (hb1.trans (hb2.mono hb1.size)).size)).size)).trans (hb5.mono (((hb1.trans (hb2.mono hb1.size)).trans (hb3.mono (hb1.trans (hb2.mono hb1.size)).size)).trans (hb4.mono ((hb1.trans (hb2.mono hb1.size)).trans (hb3.mono (hb1.trans (hb2.mono hb1.size)).size)).size)).size)).trans (hb6.mono ((((hb1.trans (hb2.mono hb1.size)).trans (hb3.mono (hb1.trans (hb2.mono hb1.size)).size)).trans (hb4.mono ((hb1.trans (hb2.mono hb1.size)).trans (hb3.mono (hb1.trans (hb2.mono hb1.size)).size)).size)).trans (hb5.mono (((hb1.trans (hb2.mono hb1.size)).trans (hb3.mono (hb1.trans (hb2.mono hb1.size)).size)).trans (hb4.mono ((hb1.trans (hb2.mono hb1.size)).trans (hb3.mono (hb1.trans (hb2.mono hb1.size)).size)).size)).size)).size)).size)).trans (hb8.mono ((((((hb1.trans (hb2.mono hb1.size)).trans (hb3.mono (hb1.trans (hb2.mono hb1.size)).size)).trans (hb4.mono ((hb1.trans (hb2.mono hb1.size)).trans (hb3.mono (hb1.trans (hb2.mono hb1.size)).size)).size)).trans (hb5.mono (((hb1.trans (hb2.mono hb1.size)).trans (hb3.mono (hb1.trans (hb2.mono hb1.size)).size)).trans (hb4.mono ((hb1.trans (hb2.mono hb1.size)).trans (hb3.mono (hb1.trans (hb2.mono hb1.size)).size)).size)).size)).trans (hb6.mono ((((hb1.trans (hb2.mono hb1.size)).trans (hb3.mono (hb1.trans (hb2.mono hb1.size)).size)).trans (hb4.mono ((hb1.trans (hb2.mono hb1.size)).trans (hb3.mono (hb1.trans (hb2.mono hb1.size)).size)).size)).trans (hb5.mono (((hb1.trans (hb2.mono hb1.size)).trans (hb3.mono (hb1.trans (hb2.mono hb1.size)).size)).trans (hb4.mono ((hb1.trans (hb2.mono hb1.size)).trans (hb3.mono (hb1.trans (hb2.mono hb1.size)).size)).size)).size)).size)).trans (hb7.mono (((((hb1.trans (hb2.mono hb1.size)).trans (hb3.mono (hb1.trans (hb2.mono hb1.size)).size)).trans (hb4.mono ((hb1.trans (hb2.mono hb1.size)).trans (hb3.mono (hb1.trans (hb2.mono hb1.size)).size)).size)).trans (hb5.mono (((hb1.trans (hb2.mono hb1.size)).trans (hb3.mono (hb1.trans (hb2.mono hb1.size)).size)).trans (hb4.mono ((hb1.trans (hb2.mono hb1.size)).trans (hb3.mono (hb1.trans (hb2.mono hb1.size)).size)).size)).size)).trans (hb6.mono ((((hb1.trans (hb2.mono hb1.size)).trans (hb3.mono (hb1.trans (hb2.mono hb1.size)).size)).trans (hb4.mono ((hb1.trans (hb2.mono hb1.size)).trans (hb3.mono (hb1.trans (hb2.mono hb1.size)).size)).size)).trans (hb5.mono (((hb1.trans (hb2.mono hb1.size)).trans (hb3.mono (hb1.trans (hb2.mono hb1.size)).size)).trans (hb4.mono ((hb1.trans (hb2.mono hb1.size)).trans (hb3.mono (hb1.trans (hb2.mono hb1.size)).size)).size)).size)).size)).size)).size))⟩

set_option maxHeartbeats 4000000 in
theorem circles_zbadb_t (w : World) (a b : Nat) (c : Nat) (ha : a ≤ 1000000000000) (hb : b ≤ 1000000000000) (x : Nat) (hx : circ (zeck a) (zeck b) = x) (hx1 : x ≤ 1000000000000) (hc : c ≤ 1000000000000) (hz : ¬ circ (zeck b) (zeck c) ≤ 1000000000000) (hp : ¬ circ (zeck x) (zeck c) ≤ 1000000000000) (hs : sh a ≤ 1000000000000) (hss : 1000000000000 < sh a + a)  :
    Calls Try.prog 7 #[.int .i64 a, .int .i64 b, .int .i64 c] w fun e w' => e = .returned (.bool true) ∧ Below w.heap.size w w' := by
  have HX := Lib.hid hx; clear hx
  have HZ := Lib.hid hz; clear hz
  have HP := Lib.hid hp; clear hp
  have HS := Lib.hid hs; clear hs
  have HT := Lib.hid hss; clear hss
  go_enter Try.func7, Try.ntmps7
  go_wp2_with fail
  first | (with_reducible refine (Circle_ok a b x ha hb HX.out hx1 _).mono ?_) | refine (Circle_ok a b x ha hb HX.out hx1 _).mono ?_
  rintro e w1 ⟨rfl, hb1⟩
  go_wp2_with fail
  first | (with_reducible refine (Circle_ok b a x hb ha (by rw [circ_comm]; exact HX.out) hx1 _).mono ?_) | refine (Circle_ok b a x hb ha (by rw [circ_comm]; exact HX.out) hx1 _).mono ?_
  rintro e w2 ⟨rfl, hb2⟩
  go_wp2_with fail
  first | (with_reducible refine (Circle_big x c hx1 hc HP.out _).mono ?_) | refine (Circle_big x c hx1 hc HP.out _).mono ?_
  rintro e w3 ⟨rfl, hb3⟩
  go_wp2_with fail
  first | (with_reducible refine (Circle_big b c hb hc HZ.out _).mono ?_) | refine (Circle_big b c hb hc HZ.out _).mono ?_
  rintro e w4 ⟨rfl, hb4⟩
  go_wp2_with fail
  first | (with_reducible refine (Circle1_big a ha (by rw [circ_1 a ha]; have := HT.out; omega) _).mono ?_) | refine (Circle1_big a ha (by rw [circ_1 a ha]; have := HT.out; omega) _).mono ?_
  rintro e w5 ⟨rfl, hb5⟩
  go_wp2_with fail
  first | (with_reducible refine (Shift_yes a ha HS.out _).mono ?_) | refine (Shift_yes a ha HS.out _).mono ?_
  rintro e w6 ⟨rfl, hb6⟩
  go_wp2_with fail
  first | (with_reducible refine (Shift_big (sh a) HS.out (by rw [sh_sh a ha HS.out]; exact HT.out) _).mono ?_) | refine (Shift_big (sh a) HS.out (by rw [sh_sh a ha HS.out]; exact HT.out) _).mono ?_
  rintro e w7 ⟨rfl, hb7⟩
  go_wp2_with fail
  first | (with_reducible refine (awake_any _).mono ?_) | refine (awake_any _).mono ?_
  rintro e w8 ⟨rfl, hb8⟩
  go_wp2
  go_ret
  exact ⟨rfl, (((((((hb1.trans (hb2.mono hb1.size)).trans (hb3.mono (hb1.trans (hb2.mono hb1.size)).size)).trans (hb4.mono ((hb1.trans (hb2.mono hb1.size)).trans (hb3.mono (hb1.trans (hb2.mono hb1.size)).size)).size)).trans (hb5.mono (((hb1.trans (hb2.mono hb1.size)).trans (hb3.mono (hb1.trans (hb2.mono hb1.size)).size)).trans (hb4.mono ((hb1.trans (hb2.mono hb1.size)).trans (hb3.mono (hb1.trans (hb2.mono hb1.size)).size)).size)).size)).trans (hb6.mono ((((hb1.trans (hb2.mono hb1.size)).trans (hb3.mono (hb1.trans (hb2.mono hb1.size)).size)).trans (hb4.mono ((hb1.trans (hb2.mono hb1.size)).trans (hb3.mono (hb1.trans (hb2.mono hb1.size)).size)).size)).trans (hb5.mono (((hb1.trans (hb2.mono hb1.size)).trans (hb3.mono (hb1.trans (hb2.mono hb1.size)).size)).trans (hb4.mono ((hb1.trans (hb2.mono hb1.size)).trans (hb3.mono (hb1.trans (hb2.mono hb1.size)).size)).size)).size)).size)).trans (hb7.mono (((((hb1.trans (hb2.mono hb1.size)).trans (hb3.mono (hb1.trans (hb2.mono hb1.size)).size)).trans (hb4.mono ((hb1.trans (hb2.mono hb1.size)).trans (hb3.mono (hb1.trans (hb2.mono hb1.size)).size)).size)).trans (hb5.mono (((hb1.trans (hb2.mono hb1.size)).trans (hb3.mono (hb1.trans (hb2.mono hb1.size)).size)).trans (hb4.mono ((hb1.trans (hb2.mono hb1.size)).trans (hb3.mono (hb1.trans (hb2.mono hb1.size)).size)).size)).size)).trans (hb6.mono ((((hb1.trans (hb2.mono hb1.size)).trans (hb3.mono (hb1.trans (hb2.mono hb1.size)).size)).trans (hb4.mono ((hb1.trans (hb2.mono hb1.size)).trans (hb3.mono (hb1.trans (hb2.mono hb1.size)).size)).size)).trans (hb5.mono (((hb1.trans (hb2.mono hb1.size)).trans (hb3.mono (hb1.trans (hb2.mono hb1.size)).size)).trans (hb4.mono ((hb1.trans (hb2.mono hb1.size)).trans (hb3.mono (hb1.trans (hb2.mono hb1.size)).size)).size)).size)).size)).size)).trans (hb8.mono ((((((hb1.trans (hb2.mono hb1.size)).trans (hb3.mono (hb1.trans (hb2.mono hb1.size)).size)).trans (hb4.mono ((hb1.trans (hb2.mono hb1.size)).trans (hb3.mono (hb1.trans (hb2.mono hb1.size)).size)).size)).trans (hb5.mono (((hb1.trans (hb2.mono hb1.size)).trans (hb3.mono (hb1.trans (hb2.mono hb1.size)).size)).trans (hb4.mono ((hb1.trans (hb2.mono hb1.size)).trans (hb3.mono (hb1.trans (hb2.mono hb1.size)).size)).size)).size)).trans (hb6.mono ((((hb1.trans (hb2.mono hb1.size)).trans (hb3.mono (hb1.trans (hb2.mono hb1.size)).size)).trans (hb4.mono ((hb1.trans (hb2.mono hb1.size)).trans (hb3.mono (hb1.trans (hb2.mono hb1.size)).size)).size)).trans (hb5.mono (((hb1.trans (hb2.mono hb1.size)).trans (hb3.mono (hb1.trans (hb2.mono hb1.size)).size)).trans (hb4.mono ((hb1.trans (hb2.mono hb1.size)).trans (hb3.mono (hb1.trans (hb2.mono hb1.size)).size)).size)).size)).size)).trans (hb7.mono (((((hb1.trans (hb2.mono hb1.size)).trans (hb3.mono (hb1.trans (hb2.mono hb1.size)).size)).trans (hb4.mono ((hb1.trans (hb2.mono hb1.size)).trans (hb3.mono (hb1.trans (hb2.mono hb1.size)).size)).size)).trans (hb5.mono (((hb1.trans (hb2.mono hb1.size)).trans (hb3.mono (hb1.trans (hb2.mono hb1.size)).size)).trans (hb4.mono ((hb1.trans (hb2.mono hb1.size)).trans (hb3.mono (hb1.trans (hb2.mono hb1.size)).size)).size)).size)).trans (hb6.mono ((((hb1.trans (hb2.mono hb1.size)).trans (hb3.mono (hb1.trans (hb2.mono hb1.size)).size)).trans (hb4.mono ((hb1.trans (hb2.mono hb1.size)).trans (hb3.mono (hb1.trans (hb2.mono hb1.size)).size)).size)).trans (hb5.mono (((hb1.trans (hb2.mono hb1.size)).trans (hb3.mono (hb1.trans (hb2.mono hb1.size)).size)).trans (hb4.mono ((hb1.trans (hb2.mono hb1.size)).trans (hb3.mono (hb1.trans (hb2.mono hb1.size)).size)).size)).size)).size)).size)).size))⟩

theorem circles_mid (w : World) (a b : Nat) (c : Int) (ha : a ≤ 1000000000000) (hb : b ≤ 1000000000000) (hx1 : circ (zeck a) (zeck b) ≤ 1000000000000) :
    Calls Try.prog 7 #[.int .i64 a, .int .i64 b, .int .i64 c] w fun e w' => e = .returned (.bool true) ∧ Below w.heap.size w w' := by
  by_cases hs : 1000000000000 < sh a
  · by_cases h1 : 0 ≤ c ∧ c ≤ 1000000000000
    · obtain ⟨m, rfl⟩ := Int.eq_ofNat_of_zero_le h1.1
      by_cases hz : circ (zeck b) (zeck m) ≤ 1000000000000
      · by_cases hp : circ (zeck (circ (zeck a) (zeck b))) (zeck m) ≤ 1000000000000
        · exact circles_all_b w a b m ha hb _ rfl hx1 (by omega) _ rfl hz _ rfl hp (circ_assoc a b m ha hb (by omega) hx1 hz).symm hs
        · exact circles_zok_b w a b m ha hb _ rfl hx1 (by omega) _ rfl hz hp hs
      · by_cases hp : circ (zeck (circ (zeck a) (zeck b))) (zeck m) ≤ 1000000000000
        · exact circles_zbadp_b w a b m ha hb _ rfl hx1 (by omega) hz _ rfl hp hs
        · exact circles_zbadb_b w a b m ha hb _ rfl hx1 (by omega) hz hp hs
    · exact circles_cno_b w a b c ha hb _ rfl hx1 (by omega) hs
  · by_cases ht : sh a + a ≤ 1000000000000
    · by_cases h1 : 0 ≤ c ∧ c ≤ 1000000000000
      · obtain ⟨m, rfl⟩ := Int.eq_ofNat_of_zero_le h1.1
        by_cases hz : circ (zeck b) (zeck m) ≤ 1000000000000
        · by_cases hp : circ (zeck (circ (zeck a) (zeck b))) (zeck m) ≤ 1000000000000
          · exact circles_all_s w a b m ha hb _ rfl hx1 (by omega) _ rfl hz _ rfl hp (circ_assoc a b m ha hb (by omega) hx1 hz).symm (by omega) ht
          · exact circles_zok_s w a b m ha hb _ rfl hx1 (by omega) _ rfl hz hp (by omega) ht
        · by_cases hp : circ (zeck (circ (zeck a) (zeck b))) (zeck m) ≤ 1000000000000
          · exact circles_zbadp_s w a b m ha hb _ rfl hx1 (by omega) hz _ rfl hp (by omega) ht
          · exact circles_zbadb_s w a b m ha hb _ rfl hx1 (by omega) hz hp (by omega) ht
      · exact circles_cno_s w a b c ha hb _ rfl hx1 (by omega) (by omega) ht
    · have ht' : 1000000000000 < sh a + a := by omega
      by_cases h1 : 0 ≤ c ∧ c ≤ 1000000000000
      · obtain ⟨m, rfl⟩ := Int.eq_ofNat_of_zero_le h1.1
        by_cases hz : circ (zeck b) (zeck m) ≤ 1000000000000
        · by_cases hp : circ (zeck (circ (zeck a) (zeck b))) (zeck m) ≤ 1000000000000
          · exact circles_all_t w a b m ha hb _ rfl hx1 (by omega) _ rfl hz _ rfl hp (circ_assoc a b m ha hb (by omega) hx1 hz).symm (by omega) ht'
          · exact circles_zok_t w a b m ha hb _ rfl hx1 (by omega) _ rfl hz hp (by omega) ht'
        · by_cases hp : circ (zeck (circ (zeck a) (zeck b))) (zeck m) ≤ 1000000000000
          · exact circles_zbadp_t w a b m ha hb _ rfl hx1 (by omega) hz _ rfl hp (by omega) ht'
          · exact circles_zbadb_t w a b m ha hb _ rfl hx1 (by omega) hz hp (by omega) ht'
      · exact circles_cno_t w a b c ha hb _ rfl hx1 (by omega) (by omega) ht'
theorem numeralCircles_walk (w : World) (a : Int) (_ha : -9223372036854775808 ≤ a ∧ a ≤ 9223372036854775807) (b : Int) (_hb : -9223372036854775808 ≤ b ∧ b ≤ 9223372036854775807) (c : Int) (_hc : -9223372036854775808 ≤ c ∧ c ≤ 9223372036854775807) :
    Calls Try.prog 7 #[.int .i64 a, .int .i64 b, .int .i64 c] w fun e w' => e = .returned (.bool true) ∧ Below w.heap.size w w' := by
  by_cases h0 : (0 ≤ a ∧ a ≤ 1000000000000) ∧ (0 ≤ b ∧ b ≤ 1000000000000)
  · obtain ⟨n, rfl⟩ := Int.eq_ofNat_of_zero_le h0.1.1
    obtain ⟨m, rfl⟩ := Int.eq_ofNat_of_zero_le h0.2.1
    by_cases hx : circ (zeck n) (zeck m) ≤ 1000000000000
    · exact circles_mid w n m c (by omega) (by omega) hx
    · exact circles_big w n m c (by omega) (by omega) hx
  · exact circles_bad w a b c (by omega) (by omega)
end Go.Proofs.Ytiknocjdogbajaa
