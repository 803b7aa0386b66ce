/- The walks of LiftTeich and LiftLetters. -/
import Derived.Test.YtdkobkghhnccgaaJ
namespace Go.Proofs.Ytdkobkghhnccgaa
open Go.RowKit
set_option maxRecDepth 100000 in
set_option maxHeartbeats 8000000 in
theorem liftTeich_no (a p k : Int) (h : ¬ PK p k) (w : World) :
    Calls Try.prog 5 #[.int .i64 a, .int .i64 p, .int .i64 k] w fun e w' => e = .returned (.bool true) ∧ Below w.heap.size w w' := by
  have H := Lib.hid h
  clear h
  go_enter Try.func5, Try.ntmps5
  go_wp2_with fail
  refine (Teich_no a p k (fun hh => H.out hh.1) _).mono ?_
  rintro e w1 ⟨rfl, b1⟩
  go_wp2_with fail
  refine (Square_no a p k (fun hh => H.out hh.1) _).mono ?_
  rintro e w2 ⟨rfl, b2⟩
  have hb := b1.trans (b2.mono b1.size)
  clear b1 b2
  go_wp2_with fail
  refine (rPower_no p k H.out _).mono ?_
  rintro e _ ⟨rfl, rfl⟩
  go_wp2_with fail
  (with_reducible refine (awake_any _).mono ?_)
  rintro e wz ⟨rfl, bz⟩
  have hb9 := hb.trans (bz.mono hb.size)
  go_wp2_with fail
  go_ret
  exact ⟨rfl, hb9⟩
set_option maxRecDepth 100000 in
set_option maxHeartbeats 16000000 in
theorem liftTeich_yes (a : Int) (P K : Nat) (hP : isP P) (hK : 1 ≤ K) (hq : pn P K ≤ 20000) (w : World) :
    Calls Try.prog 5 #[.int .i64 a, .int .i64 P, .int .i64 K] w fun e w' => e = .returned (.bool true) ∧ Below w.heap.size w w' := by
  have HP := Lib.hid hP
  have HQ := Lib.hid hq
  have hq0 := pn_pos (show 0 < P by have := hP.pos; omega) K
  have hqz : ((pn P K : Nat) : Int) ≠ 0 := by omega
  have hqb : (((pn P K : Nat) : Int) == 0) = false := by rw [beq_eq_false_iff_ne]; omega
  have hqb2 : ((pn P K) == 0) = false := by rw [beq_eq_false_iff_ne]; omega
  have h13 := hP.le
  clear hP hqz
  by_cases ha : 0 ≤ a ∧ a < P
  · obtain ⟨r, rfl⟩ := Int.eq_ofNat_of_zero_le ha.1
    have hr : r < P := by omega
    clear ha
    have d1 : decide ((r : Int) < 0) = false := decide_eq_false (by omega)
    have d2 : decide ((P : Int) ≤ r) = false := decide_eq_false (by omega)
    have d3 : decide (P ≤ r) = false := decide_eq_false (by omega)
    have d4 : decide ((r : Int) < -1000000) = false := decide_eq_false (by omega)
    have d5 : decide ((1000000 : Int) < r) = false := decide_eq_false (by omega)
    have d6 : decide (1000000 < r) = false := decide_eq_false (by omega)
    go_enter Try.func5, Try.ntmps5
    go_wp2_with fail
    refine (Teich_yes P K r HP.out hK HQ.out hr _).mono ?_
    rintro e w1 ⟨rfl, b1⟩
    go_wp2_with fail
    refine (Square_yes r (by omega) (by omega) P K HP.out hK HQ.out _).mono ?_
    rintro e w2 ⟨v2, rfl, o2, b2⟩
    have I2 := Lib.hid (o2.ints (by have := rootsk_le (sq r) (pn P K) (pn P K); rw [rootsk_all] at this; omega))
    have hb := b1.trans (b2.mono b1.size)
    clear b1 b2 o2
    go_wp2_with fail
    refine (rPower_yes P K HP.out hK HQ.out _).mono ?_
    rintro e _ ⟨rfl, rfl⟩
    go_wp2_with fail
    refine (rTeich_any P K r HP.out hK HQ.out hr _).mono ?_
    rintro e _ ⟨rfl, rfl⟩
    go_wp2_with fail
    refine (rSquare_any r (by omega) (by omega) (pn P K) hq0 HQ.out _).mono ?_
    rintro e w3 ⟨v3, rfl, o3, b3⟩
    have I3 := Lib.hid (o3.ints (by have := rootsk_le (sq r) (pn P K) (pn P K); rw [rootsk_all] at this; omega))
    have I2b := Lib.hid (I2.out.keep b3)
    have hb3 := hb.trans (b3.mono hb.size)
    clear b3 o3 hb
    go_wp2_with fail
    refine (equal_yes _ _ _ _ I2b.out I3.out).mono ?_
    rintro e w4 ⟨rfl, b4⟩
    have hb4 := hb3.trans (b4.mono hb3.size)
    clear b4 hb3
    go_wp2_with fail
    (with_reducible refine (awake_any _).mono ?_)
    rintro e wz ⟨rfl, bz⟩
    have hb9 := hb4.trans (bz.mono hb4.size)
    go_wp2_with fail
    go_ret
    exact ⟨rfl, hb9⟩
  · have HA := Lib.hid ha
    by_cases hs : -1000000 ≤ a ∧ a ≤ 1000000
    · have hs1 := hs.1
      have hs2 := hs.2
      have d4 : decide (a < -1000000) = false := decide_eq_false (by omega)
      have d5 : decide (1000000 < a) = false := decide_eq_false (by omega)
      clear hs ha
      by_cases h0 : a < 0
      · have d1 : decide (a < 0) = true := decide_eq_true h0
        go_enter Try.func5, Try.ntmps5
        go_wp2_with fail
        refine (Teich_no a P K (fun hh => HA.out hh.2) _).mono ?_
        rintro e w1 ⟨rfl, b1⟩
        go_wp2_with fail
        refine (Square_yes a hs1 hs2 P K HP.out hK HQ.out _).mono ?_
        rintro e w2 ⟨v2, rfl, o2, b2⟩
        have I2 := Lib.hid (o2.ints (by have := rootsk_le (sq a) (pn P K) (pn P K); rw [rootsk_all] at this; omega))
        have hb := b1.trans (b2.mono b1.size)
        clear b1 b2 o2
        go_wp2_with fail
        refine (rPower_yes P K HP.out hK HQ.out _).mono ?_
        rintro e _ ⟨rfl, rfl⟩
        go_wp2_with fail
        refine (rSquare_any a hs1 hs2 (pn P K) hq0 HQ.out _).mono ?_
        rintro e w3 ⟨v3, rfl, o3, b3⟩
        have I3 := Lib.hid (o3.ints (by have := rootsk_le (sq a) (pn P K) (pn P K); rw [rootsk_all] at this; omega))
        have I2b := Lib.hid (I2.out.keep b3)
        have hb3 := hb.trans (b3.mono hb.size)
        clear b3 o3 hb
        go_wp2_with fail
        refine (equal_yes _ _ _ _ I2b.out I3.out).mono ?_
        rintro e w4 ⟨rfl, b4⟩
        have hb4 := hb3.trans (b4.mono hb3.size)
        clear b4 hb3
        go_wp2_with fail
        (with_reducible refine (awake_any _).mono ?_)
        rintro e wz ⟨rfl, bz⟩
        have hb9 := hb4.trans (bz.mono hb4.size)
        go_wp2_with fail
        go_ret
        exact ⟨rfl, hb9⟩
      · have d1 : decide (a < 0) = false := decide_eq_false h0
        have d2 : decide ((P : Int) ≤ a) = true := decide_eq_true (by have := HA.out; omega)
        go_enter Try.func5, Try.ntmps5
        go_wp2_with fail
        refine (Teich_no a P K (fun hh => HA.out hh.2) _).mono ?_
        rintro e w1 ⟨rfl, b1⟩
        go_wp2_with fail
        refine (Square_yes a hs1 hs2 P K HP.out hK HQ.out _).mono ?_
        rintro e w2 ⟨v2, rfl, o2, b2⟩
        have I2 := Lib.hid (o2.ints (by have := rootsk_le (sq a) (pn P K) (pn P K); rw [rootsk_all] at this; omega))
        have hb := b1.trans (b2.mono b1.size)
        clear b1 b2 o2
        go_wp2_with fail
        refine (rPower_yes P K HP.out hK HQ.out _).mono ?_
        rintro e _ ⟨rfl, rfl⟩
        go_wp2_with fail
        refine (rSquare_any a hs1 hs2 (pn P K) hq0 HQ.out _).mono ?_
        rintro e w3 ⟨v3, rfl, o3, b3⟩
        have I3 := Lib.hid (o3.ints (by have := rootsk_le (sq a) (pn P K) (pn P K); rw [rootsk_all] at this; omega))
        have I2b := Lib.hid (I2.out.keep b3)
        have hb3 := hb.trans (b3.mono hb.size)
        clear b3 o3 hb
        go_wp2_with fail
        refine (equal_yes _ _ _ _ I2b.out I3.out).mono ?_
        rintro e w4 ⟨rfl, b4⟩
        have hb4 := hb3.trans (b4.mono hb3.size)
        clear b4 hb3
        go_wp2_with fail
        (with_reducible refine (awake_any _).mono ?_)
        rintro e wz ⟨rfl, bz⟩
        have hb9 := hb4.trans (bz.mono hb4.size)
        go_wp2_with fail
        go_ret
        exact ⟨rfl, hb9⟩
    · have HS := Lib.hid hs
      by_cases h0 : a < 0
      · have d1 : decide (a < 0) = true := decide_eq_true h0
        have d4 : decide (a < -1000000) = true := decide_eq_true (by omega)
        clear ha hs
        go_enter Try.func5, Try.ntmps5
        go_wp2_with fail
        refine (Teich_no a P K (fun hh => HA.out hh.2) _).mono ?_
        rintro e w1 ⟨rfl, b1⟩
        go_wp2_with fail
        refine (Square_no a P K (fun hh => HS.out hh.2) _).mono ?_
        rintro e w2 ⟨rfl, b2⟩
        have hb := b1.trans (b2.mono b1.size)
        clear b1 b2
        go_wp2_with fail
        refine (rPower_yes P K HP.out hK HQ.out _).mono ?_
        rintro e _ ⟨rfl, rfl⟩
        go_wp2_with fail
        (with_reducible refine (awake_any _).mono ?_)
        rintro e wz ⟨rfl, bz⟩
        have hb9 := hb.trans (bz.mono hb.size)
        go_wp2_with fail
        go_ret
        exact ⟨rfl, hb9⟩
      · have d1 : decide (a < 0) = false := decide_eq_false h0
        have d2 : decide ((P : Int) ≤ a) = true := decide_eq_true (by omega)
        have d4 : decide (a < -1000000) = false := decide_eq_false (by omega)
        have d5 : decide (1000000 < a) = true := decide_eq_true (by omega)
        clear ha hs
        go_enter Try.func5, Try.ntmps5
        go_wp2_with fail
        refine (Teich_no a P K (fun hh => HA.out hh.2) _).mono ?_
        rintro e w1 ⟨rfl, b1⟩
        go_wp2_with fail
        refine (Square_no a P K (fun hh => HS.out hh.2) _).mono ?_
        rintro e w2 ⟨rfl, b2⟩
        have hb := b1.trans (b2.mono b1.size)
        clear b1 b2
        go_wp2_with fail
        refine (rPower_yes P K HP.out hK HQ.out _).mono ?_
        rintro e _ ⟨rfl, rfl⟩
        go_wp2_with fail
        (with_reducible refine (awake_any _).mono ?_)
        rintro e wz ⟨rfl, bz⟩
        have hb9 := hb.trans (bz.mono hb.size)
        go_wp2_with fail
        go_ret
        exact ⟨rfl, hb9⟩
/-- The walk of LiftTeich. -/
theorem liftTeich_walk (w : World) (a : Int) (_ : -9223372036854775808 ≤ a ∧ a ≤ 9223372036854775807) (p : Int) (_ : -9223372036854775808 ≤ p ∧ p ≤ 9223372036854775807) (k : Int) (_ : -9223372036854775808 ≤ k ∧ k ≤ 9223372036854775807) :
    Calls Try.prog 5 #[.int .i64 a, .int .i64 p, .int .i64 k] w fun e w' => e = .returned (.bool true) ∧ Below w.heap.size w w' := by
  by_cases h : PK p k
  · obtain ⟨P, K, rfl, rfl, hP, hK, hq⟩ := h
    exact liftTeich_yes a P K hP hK hq w
  · exact liftTeich_no a p k h w
end Go.Proofs.Ytdkobkghhnccgaa
