/- The walk of LiftDigits. -/
import Derived.Test.YtdkobkghhnccgaaDn
namespace Go.Proofs.Ytdkobkghhnccgaa
open Go.RowKit
set_option maxRecDepth 100000 in
set_option maxHeartbeats 8000000 in
theorem liftDigits_bad (a b p n : Int) (h : ¬ FracI a b p) (w : World) :
    Calls Try.prog 9 #[.int .i64 a, .int .i64 b, .int .i64 p, .int .i64 n] w fun e w' => e = .returned (.bool true) ∧ Below w.heap.size w w' := by
  have HF := Lib.hid h
  clear h
  go_enter Try.func9, Try.ntmps9
  go_wp2_with fail
  refine (Digits_no a b p n (fun hh => HF.out hh.1) _).mono ?_
  rintro e w1 ⟨rfl, hb1⟩
  go_wp2_with fail
  refine (Again_no a b p HF.out _).mono ?_
  rintro e w2 ⟨rfl, b2⟩
  have hb2 := hb1.trans (b2.mono hb1.size)
  go_wp2_with fail
  refine (rFraction_any a b p false (by simp; exact HF.out) _).mono ?_
  rintro e _ ⟨rfl, rfl⟩
  go_wp2_with fail
  (with_reducible refine (awake_any _).mono ?_)
  rintro e wz ⟨rfl, bz⟩
  have hb9 := hb2.trans (bz.mono hb2.size)
  go_wp2_with fail
  go_ret
  exact ⟨rfl, hb9⟩

set_option maxRecDepth 100000 in
set_option maxHeartbeats 8000000 in
theorem liftDigits_lo (a b : Int) (P : Nat) (n : Int) (h : FracI a b P) (hf : Frc a b P) (h0 : n < 0) (w : World) :
    Calls Try.prog 9 #[.int .i64 a, .int .i64 b, .int .i64 P, .int .i64 n] w fun e w' => e = .returned (.bool true) ∧ Below w.heap.size w w' := by
  have HI := Lib.hid h
  have HF := Lib.hid hf
  obtain ⟨s, N, hr⟩ := rep_ex hf
  have HR := Lib.hid hr
  have hN := rep_n hf.hP a b hf.hb hf.b0 hf.b1 hf.a0 hf.a1 N hr.2.2
  have hsN := hr.1
  have t0 : decide (n < 0) = true := decide_eq_true h0
  clear h hf hr 
  go_enter Try.func9, Try.ntmps9
  go_wp2_with fail
  refine (Digits_no a b P n (fun hh => by have := hh.2; omega) _).mono ?_
  rintro e w1 ⟨rfl, hb1⟩
  go_wp2_with fail
  refine (Again_yes a b P s N HF.out HI.out HR.out _).mono ?_
  rintro e w2 ⟨rfl, b2⟩
  have hb2 := hb1.trans (b2.mono hb1.size)
  go_wp2_with fail
  refine (rFraction_any a b P true (by simp; exact HI.out) _).mono ?_
  rintro e _ ⟨rfl, rfl⟩
  go_wp2_with fail
  refine (rAgain_any a b P s N HF.out HR.out _).mono ?_
  rintro e w3 ⟨rfl, b3⟩
  have hb3 := hb2.trans (b3.mono hb2.size)
  go_wp2_with fail
  (with_reducible refine (awake_any _).mono ?_)
  rintro e w4 ⟨rfl, b4⟩
  have hb4 := hb3.trans (b4.mono hb3.size)
  go_wp2_with fail
  go_ret
  exact ⟨rfl, hb4⟩

set_option maxRecDepth 100000 in
set_option maxHeartbeats 8000000 in
theorem liftDigits_hi (a b : Int) (P : Nat) (n : Int) (h : FracI a b P) (hf : Frc a b P) (h0 : 40 < n) (w : World) :
    Calls Try.prog 9 #[.int .i64 a, .int .i64 b, .int .i64 P, .int .i64 n] w fun e w' => e = .returned (.bool true) ∧ Below w.heap.size w w' := by
  have HI := Lib.hid h
  have HF := Lib.hid hf
  obtain ⟨s, N, hr⟩ := rep_ex hf
  have HR := Lib.hid hr
  have hN := rep_n hf.hP a b hf.hb hf.b0 hf.b1 hf.a0 hf.a1 N hr.2.2
  have hsN := hr.1
  have t0 : decide (n < 0) = false := decide_eq_false (by omega)
  have t1 : decide (40 < n) = true := decide_eq_true h0
  clear h hf hr 
  go_enter Try.func9, Try.ntmps9
  go_wp2_with fail
  refine (Digits_no a b P n (fun hh => by have := hh.2; omega) _).mono ?_
  rintro e w1 ⟨rfl, hb1⟩
  go_wp2_with fail
  refine (Again_yes a b P s N HF.out HI.out HR.out _).mono ?_
  rintro e w2 ⟨rfl, b2⟩
  have hb2 := hb1.trans (b2.mono hb1.size)
  go_wp2_with fail
  refine (rFraction_any a b P true (by simp; exact HI.out) _).mono ?_
  rintro e _ ⟨rfl, rfl⟩
  go_wp2_with fail
  refine (rAgain_any a b P s N HF.out HR.out _).mono ?_
  rintro e w3 ⟨rfl, b3⟩
  have hb3 := hb2.trans (b3.mono hb2.size)
  go_wp2_with fail
  (with_reducible refine (awake_any _).mono ?_)
  rintro e w4 ⟨rfl, b4⟩
  have hb4 := hb3.trans (b4.mono hb3.size)
  go_wp2_with fail
  go_ret
  exact ⟨rfl, hb4⟩

set_option maxRecDepth 100000 in
set_option maxHeartbeats 8000000 in
theorem liftDigits_yes (a b : Int) (P : Nat) (k : Nat) (hk : k ≤ 40) (h : FracI a b P) (hf : Frc a b P)  (w : World) :
    Calls Try.prog 9 #[.int .i64 a, .int .i64 b, .int .i64 P, .int .i64 k] w fun e w' => e = .returned (.bool true) ∧ Below w.heap.size w w' := by
  have HI := Lib.hid h
  have HF := Lib.hid hf
  obtain ⟨s, N, hr⟩ := rep_ex hf
  have HR := Lib.hid hr
  have hN := rep_n hf.hP a b hf.hb hf.b0 hf.b1 hf.a0 hf.a1 N hr.2.2
  have hsN := hr.1
  have t0 : decide ((k : Int) < 0) = false := decide_eq_false (by omega)
  have t1 : decide ((40 : Int) < k) = false := decide_eq_false (by omega)
  have t2 : decide (40 < k) = false := decide_eq_false (by omega)
  clear h hf hr 
  go_enter Try.func9, Try.ntmps9
  go_wp2_with fail
  refine (Digits_yes a b P k HF.out HI.out (by omega) _).mono ?_
  rintro e w1 ⟨v1, rfl, o1, hb1⟩
  have I1 := Lib.hid (o1.ints (by rw [dl_length]; omega))
  obtain ⟨_, A1, c1, rfl, _, _⟩ := I1.out
  have HB1 := Lib.hid hb1
  clear o1
  go_wp2_with fail
  refine (Again_yes a b P s N HF.out HI.out HR.out _).mono ?_
  rintro e w2 ⟨rfl, b2⟩
  have hb2 := hb1.trans (b2.mono hb1.size)
  go_wp2_with fail
  refine (rFraction_any a b P true (by simp; exact HI.out) _).mono ?_
  rintro e _ ⟨rfl, rfl⟩
  go_wp2_with fail
  refine (rAgain_any a b P s N HF.out HR.out _).mono ?_
  rintro e w3 ⟨rfl, b3⟩
  have hb3 := hb2.trans (b3.mono hb2.size)
  go_wp2_with fail
  (with_reducible refine (awake_any _).mono ?_)
  rintro e w4 ⟨rfl, b4⟩
  have hb4 := hb3.trans (b4.mono hb3.size)
  go_wp2_with fail
  have I1b := Lib.hid (((I1.out.keep b2).keep b3).keep b4)
  clear b2 b3 b4
  refine (rDigits_any a b P k HF.out (by omega) _).mono ?_
  rintro e w5 ⟨v5, rfl, o5, b5⟩
  have hb5 := hb4.trans (b5.mono hb4.size)
  have I5 := Lib.hid (o5.ints (by rw [dl_length]; omega))
  have I1c := Lib.hid (I1b.out.keep b5)
  clear b5 o5
  go_wp2_with fail
  refine (equal_yes _ _ _ _ I1c.out I5.out).mono ?_
  rintro e w6 ⟨rfl, b6⟩
  have hb6 := hb5.trans (b6.mono hb5.size)
  go_wp2_with fail
  go_ret
  exact ⟨rfl, hb6⟩


/-- The walk of LiftDigits. -/
theorem liftDigits_walk (w : World) (a : Int) (_ : -9223372036854775808 ≤ a ∧ a ≤ 9223372036854775807) (b : Int) (_ : -9223372036854775808 ≤ b ∧ b ≤ 9223372036854775807) (p : Int) (_ : -9223372036854775808 ≤ p ∧ p ≤ 9223372036854775807) (n : Int) (_ : -9223372036854775808 ≤ n ∧ n ≤ 9223372036854775807) :
    Calls Try.prog 9 #[.int .i64 a, .int .i64 b, .int .i64 p, .int .i64 n] w fun e w' => e = .returned (.bool true) ∧ Below w.heap.size w w' := by
  by_cases h : FracI a b p
  · obtain ⟨P, rfl, hf⟩ := h.frc
    by_cases h0 : n < 0
    · exact liftDigits_lo a b P n h hf h0 w
    · by_cases h1 : 40 < n
      · exact liftDigits_hi a b P n h hf h1 w
      · obtain ⟨k, rfl⟩ := Int.eq_ofNat_of_zero_le (show 0 ≤ n by omega)
        exact liftDigits_yes a b P k (by omega) h hf w
  · exact liftDigits_bad a b p n h w
end Go.Proofs.Ytdkobkghhnccgaa
