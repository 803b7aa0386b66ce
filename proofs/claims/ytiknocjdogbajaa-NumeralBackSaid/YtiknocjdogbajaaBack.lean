/- The walk of NumeralBack. -/
import Derived.Test.YtiknocjdogbajaaE
namespace Go.Proofs.Ytiknocjdogbajaa
open Go.RowKit

/-- Value of what is no numeral, or too great -/
theorem Value_not (v : Value) (xs : List Int) (h : ¬ (IsNum xs ∧ ∀ l, xs = ix l → vsum F l ≤ 1000000000000)) (hbd : ∀ n ∈ xs, -9223372036854775808 ≤ n ∧ n ≤ 9223372036854775807) (w : World) (hv : Ints w v xs) :
    Calls Try.prog 20 #[v] w fun e w' => (∃ s : Int, e = .returned (.tuple #[.int .i64 0, .int .i64 s]) ∧ 1 ≤ s) ∧ w = w' := by
  by_cases hx : IsNum xs
  · obtain ⟨l, rfl, hl⟩ := hx
    have hbig : 1000000000000 < vsum F l := by
      rcases Nat.lt_or_ge 1000000000000 (vsum F l) with h' | h'
      · exact h'
      · exact absurd ⟨⟨l, rfl, hl⟩, fun m e => by
          have : l = m := by
            have h0 : ∀ (l m : List Nat), ix l = ix m → l = m := by
              intro l
              induction l with
              | nil => intro m e; cases m with
                | nil => rfl
                | cons b m => simp [ix] at e
              | cons a l ih => intro m e; cases m with
                | nil => simp [ix] at e
                | cons b m =>
                  simp only [ix, List.map_cons, List.cons.injEq] at e
                  have := ih m e.2
                  have h1 : a = b := by omega
                  rw [this, h1]
            exact h0 l m e
          rw [← this]; exact h'⟩ h
    exact (Value_big v l hl hbig w hv).mono fun e w' ⟨he, hw⟩ => ⟨⟨6, he, by omega⟩, hw⟩
  · exact (Value_no v xs hx hbd w hv).mono fun e w' ⟨he, hw⟩ => ⟨⟨2, he, by omega⟩, hw⟩
theorem Clone_num (v : Value) (l : List Nat) (hl : Falls 60 l) (w : World) (h : Ints w v (ix l)) :
    Calls Try.prog 44 #[v] w fun e w' => ∃ v', e = .returned v' ∧ Ints w' v' (ix l) ∧ Below w.heap.size w w' := by
  have h1 := falls_length hl
  exact (clone_any v (ix l) w h).mono fun _ _ ⟨v', he, ho, hb⟩ => ⟨v', he, ho.ints (by rw [ix_length]; omega), hb⟩
theorem clone_z (v : Value) (n : Nat) (hn : n ≤ 1000000000000) (w : World) (h : Ints w v (ix (zeck n))) :
    Calls Try.prog 44 #[v] w fun e w' => ∃ v', e = .returned v' ∧ Ints w' v' (ix (zeck n)) ∧ Below w.heap.size w w' := Clone_num v (zeck n) (zeck_falls n hn) w h
theorem zeck_of {l : List Nat} (hl : Falls 60 l) : zeck (vsum F l) = l := zk_of_falls 60 l hl
theorem Value_zeck (v : Value) (n : Nat) (hn : n ≤ 1000000000000) (w : World) (hv : Ints w v (ix (zeck n))) :
    Calls Try.prog 20 #[v] w fun e w' => e = .returned (.tuple #[.int .i64 n, .int .i64 0]) ∧ w = w' := by
  have h := zeck_sum n hn
  have := Value_yes v (zeck n) (zeck_falls n hn) (by omega) w hv
  rw [h] at this
  exact this
theorem Value_sum (v : Value) (x y : Nat) (hn : x + y ≤ 1000000000000) (w : World) (hv : Ints w v (ix (zeck (x + y)))) :
    Calls Try.prog 20 #[v] w fun e w' => e = .returned (.tuple #[.int .i64 ((x : Int) + y), .int .i64 0]) ∧ w = w' := by
  have := Value_zeck v (x + y) hn w hv
  rw [show ((x + y : Nat) : Int) = (x : Int) + y by omega] at this
  exact this
theorem Encode_sum (l : List Nat) (hl : Falls 60 l) (hs : vsum F l ≤ 1000000000000) (w : World) :
    Calls Try.prog 19 #[.int .i64 (vsum F l)] w fun e w' => ∃ v, e = .returned (.tuple #[v, .int .i64 0]) ∧ Ints w' v (ix l) ∧ Below w.heap.size w w' := by
  have := Encode_yes (vsum F l) hs w
  have e : zk 60 (vsum F l) = l := zk_of_falls 60 l hl
  rw [e] at this
  exact this
theorem Add_zeck (v1 v2 : Value) (m n : Nat) (hm : m ≤ 1000000000000) (hn : n ≤ 1000000000000) (h : m + n ≤ 1000000000000) (w : World) (h1 : Ints w v1 (ix (zeck m))) (h2 : Ints w v2 (ix (zeck n))) :
    Calls Try.prog 45 #[v1, v2] w fun e w' => ∃ v, e = .returned (.tuple #[v, .int .i64 0]) ∧ Ints w' v (ix (zeck (m + n))) ∧ Below w.heap.size w w' := by
  have a := zeck_sum m hm
  have b := zeck_sum n hn
  have := Add_yes v1 v2 (zeck m) (zeck n) (zeck_falls m hm) (zeck_falls n hn) (by omega) w h1 h2
  rw [vs_zero, vs_zero, a, b] at this
  exact this
theorem Add_zbig (v1 v2 : Value) (m n : Nat) (hm : m ≤ 1000000000000) (hn : n ≤ 1000000000000) (h : 1000000000000 < m + n) (w : World) (h1 : Ints w v1 (ix (zeck m))) (h2 : Ints w v2 (ix (zeck n))) :
    Calls Try.prog 45 #[v1, v2] w fun e w' => e = .returned (.tuple #[.slice none 0 0, .int .i64 6]) ∧ w = w' := by
  have a := zeck_sum m hm
  have b := zeck_sum n hn
  exact Add_big v1 v2 (zeck m) (zeck n) (zeck_falls m hm) (zeck_falls n hn) (by omega) w h1 h2
theorem Less_ztrue (v1 v2 : Value) (m n : Nat) (hm : m ≤ 1000000000000) (hn : n ≤ 1000000000000) (h : m < n) (w : World) (h1 : Ints w v1 (ix (zeck m))) (h2 : Ints w v2 (ix (zeck n))) :
    Calls Try.prog 46 #[v1, v2] w fun e w' => e = .returned (.tuple #[.bool true, .int .i64 0]) ∧ w = w' := by
  have a := zeck_sum m hm
  have b := zeck_sum n hn
  exact Less_true v1 v2 (zeck m) (zeck n) (zeck_falls m hm) (zeck_falls n hn) (by omega) w h1 h2
theorem Less_zfalse (v1 v2 : Value) (m n : Nat) (hm : m ≤ 1000000000000) (hn : n ≤ 1000000000000) (h : ¬ m < n) (w : World) (h1 : Ints w v1 (ix (zeck m))) (h2 : Ints w v2 (ix (zeck n))) :
    Calls Try.prog 46 #[v1, v2] w fun e w' => e = .returned (.tuple #[.bool false, .int .i64 0]) ∧ w = w' := by
  have a := zeck_sum m hm
  have b := zeck_sum n hn
  exact Less_false v1 v2 (zeck m) (zeck n) (zeck_falls m hm) (zeck_falls n hn) (by omega) w h1 h2
theorem compare_zlt (v1 v2 : Value) (m n : Nat) (hm : m ≤ 1000000000000) (hn : n ≤ 1000000000000) (h : m < n) (w : World) (h1 : Ints w v1 (ix (zeck m))) (h2 : Ints w v2 (ix (zeck n))) :
    Calls Try.prog 49 #[v1, v2] w fun e w' => e = .returned (.int .i64 (-1)) ∧ w = w' := by
  have a := zeck_sum m hm
  have b := zeck_sum n hn
  exact compare_lt v1 v2 (zeck m) (zeck n) (zeck_falls m hm) (zeck_falls n hn) (by omega) w h1 h2
theorem compare_zge (v1 v2 : Value) (m n : Nat) (hm : m ≤ 1000000000000) (hn : n ≤ 1000000000000) (h : ¬ m < n) (w : World) (h1 : Ints w v1 (ix (zeck m))) (h2 : Ints w v2 (ix (zeck n))) :
    Calls Try.prog 49 #[v1, v2] w fun e w' => NotLess e ∧ w = w' := by
  have a := zeck_sum m hm
  have b := zeck_sum n hn
  exact compare_ge v1 v2 (zeck m) (zeck n) (zeck_falls m hm) (zeck_falls n hn) (by omega) w h1 h2

set_option maxHeartbeats 4000000 in
theorem back_X_n1 (w : World) (m n : Int) (hm : m < 0 ∨ 1000000000000 < m) (hn : n < 0 ∨ 1000000000000 < n) (v : Value) (xs : List Int) (hv : Ints w v xs) (hbd : ∀ n ∈ xs, -9223372036854775808 ≤ n ∧ n ≤ 9223372036854775807) (hx : ¬ (IsNum (xs.take 40) ∧ ∀ l, xs.take 40 = ix l → vsum F l ≤ 1000000000000))  :
    Calls Try.prog 14 #[.int .i64 m, .int .i64 n, v] w fun e w' => e = .returned (.bool true) ∧ Below w.heap.size w w' := by
  have HM := Lib.hid hm; clear hm
  have HN := Lib.hid hn; clear hn
  have HV := Lib.hid hv; clear hv
  have HB := Lib.hid hbd; clear hbd
  have HX := Lib.hid hx; clear hx
  go_enter Try.func14, Try.ntmps14
  go_wp2_with fail
  first | (with_reducible refine (Encode_no m HM.out _).mono ?_) | refine (Encode_no m HM.out _).mono ?_
  rintro e _ ⟨rfl, rfl⟩
  go_wp2_with fail
  first | (with_reducible refine (Encode_no n HN.out _).mono ?_) | refine (Encode_no n HN.out _).mono ?_
  rintro e _ ⟨rfl, rfl⟩
  go_wp2_with fail
  first | (with_reducible refine (list_small v xs _ (HV.out.keep (Below.refl _ _))).mono ?_) | refine (list_small v xs _ (HV.out.keep (Below.refl _ _))).mono ?_
  rintro e w1 ⟨x1, rfl, g1, hb1⟩
  go_wp2_with fail
  refine (Value_not x1 _ HX.out (bounds_take HB.out) _ g1).mono ?_
  rintro e _ ⟨⟨s, rfl, hs1⟩, rfl⟩
  go_wp2_with fail
  first | (with_reducible refine (awake_any _).mono ?_) | refine (awake_any _).mono ?_
  rintro e w2 ⟨rfl, hb2⟩
  go_wp2
  go_ret
  exact ⟨rfl, (bt hb1 hb2)⟩

set_option maxHeartbeats 4000000 in
theorem back_X_n2 (w : World) (m : Int) (n : Nat) (hm : m < 0 ∨ 1000000000000 < m) (hn : n ≤ 1000000000000) (v : Value) (xs : List Int) (hv : Ints w v xs) (hbd : ∀ n ∈ xs, -9223372036854775808 ≤ n ∧ n ≤ 9223372036854775807) (hx : ¬ (IsNum (xs.take 40) ∧ ∀ l, xs.take 40 = ix l → vsum F l ≤ 1000000000000))  :
    Calls Try.prog 14 #[.int .i64 m, .int .i64 n, v] w fun e w' => e = .returned (.bool true) ∧ Below w.heap.size w w' := by
  have HM := Lib.hid hm; clear hm
  have HV := Lib.hid hv; clear hv
  have HB := Lib.hid hbd; clear hbd
  have HX := Lib.hid hx; clear hx
  go_enter Try.func14, Try.ntmps14
  go_wp2_with fail
  first | (with_reducible refine (Encode_no m HM.out _).mono ?_) | refine (Encode_no m HM.out _).mono ?_
  rintro e _ ⟨rfl, rfl⟩
  go_wp2_with fail
  first | (with_reducible refine (Encode_yes n hn _).mono ?_) | refine (Encode_yes n hn _).mono ?_
  rintro e w1 ⟨b, rfl, hb, hb1⟩
  go_wp2_with fail
  first | (with_reducible refine (list_small v xs _ (HV.out.keep hb1)).mono ?_) | refine (list_small v xs _ (HV.out.keep hb1)).mono ?_
  rintro e w2 ⟨x1, rfl, g1, hb2⟩
  go_wp2_with fail
  refine (Value_not x1 _ HX.out (bounds_take HB.out) _ g1).mono ?_
  rintro e _ ⟨⟨s, rfl, hs1⟩, rfl⟩
  go_wp2_with fail
  first | (with_reducible refine (awake_any _).mono ?_) | refine (awake_any _).mono ?_
  rintro e w3 ⟨rfl, hb3⟩
  go_wp2
  go_ret
  exact ⟨rfl, (bt (bt hb1 hb2) hb3)⟩

set_option maxHeartbeats 4000000 in
theorem back_X_n3 (w : World) (m : Nat) (n : Int) (hm : m ≤ 1000000000000) (hn : n < 0 ∨ 1000000000000 < n) (v : Value) (xs : List Int) (hv : Ints w v xs) (hbd : ∀ n ∈ xs, -9223372036854775808 ≤ n ∧ n ≤ 9223372036854775807) (hx : ¬ (IsNum (xs.take 40) ∧ ∀ l, xs.take 40 = ix l → vsum F l ≤ 1000000000000))  :
    Calls Try.prog 14 #[.int .i64 m, .int .i64 n, v] w fun e w' => e = .returned (.bool true) ∧ Below w.heap.size w w' := by
  have HN := Lib.hid hn; clear hn
  have HV := Lib.hid hv; clear hv
  have HB := Lib.hid hbd; clear hbd
  have HX := Lib.hid hx; clear hx
  go_enter Try.func14, Try.ntmps14
  go_wp2_with fail
  first | (with_reducible refine (Encode_yes m hm _).mono ?_) | refine (Encode_yes m hm _).mono ?_
  rintro e w1 ⟨a, rfl, ha, hb1⟩
  go_wp2_with fail
  first | (with_reducible refine (Encode_no n HN.out _).mono ?_) | refine (Encode_no n HN.out _).mono ?_
  rintro e _ ⟨rfl, rfl⟩
  go_wp2_with fail
  first | (with_reducible refine (list_small v xs _ (HV.out.keep hb1)).mono ?_) | refine (list_small v xs _ (HV.out.keep hb1)).mono ?_
  rintro e w2 ⟨x1, rfl, g1, hb2⟩
  go_wp2_with fail
  refine (Value_not x1 _ HX.out (bounds_take HB.out) _ g1).mono ?_
  rintro e _ ⟨⟨s, rfl, hs1⟩, rfl⟩
  go_wp2_with fail
  first | (with_reducible refine (awake_any _).mono ?_) | refine (awake_any _).mono ?_
  rintro e w3 ⟨rfl, hb3⟩
  go_wp2
  go_ret
  exact ⟨rfl, (bt (bt hb1 hb2) hb3)⟩

set_option maxHeartbeats 8000000 in
theorem back_X_yes_true (w : World) (m n : Nat) (hm : m ≤ 1000000000000) (hn : n ≤ 1000000000000) (hsum : m + n ≤ 1000000000000) (hc : m < n) (v : Value) (xs : List Int) (hv : Ints w v xs) (hbd : ∀ n ∈ xs, -9223372036854775808 ≤ n ∧ n ≤ 9223372036854775807) (hx : ¬ (IsNum (xs.take 40) ∧ ∀ l, xs.take 40 = ix l → vsum F l ≤ 1000000000000))  :
    Calls Try.prog 14 #[.int .i64 m, .int .i64 n, v] w fun e w' => e = .returned (.bool true) ∧ Below w.heap.size w w' := by
  have hd1 : decide ((m : Int) + n ≤ 1000000000000) = true := decide_eq_true (by omega)
  have hd : decide (m < n) = true := decide_eq_true (by omega)
  have HSUM := Lib.hid hsum
  have HC := Lib.hid hc
  clear hc
  have HV := Lib.hid hv; clear hv
  have HB := Lib.hid hbd; clear hbd
  have HX := Lib.hid hx; clear hx
  go_enter Try.func14, Try.ntmps14
  go_wp2_with fail
  first | (with_reducible refine (Encode_yes m hm _).mono ?_) | refine (Encode_yes m hm _).mono ?_
  rintro e w1 ⟨a, rfl, ha, hb1⟩
  go_wp2_with fail
  first | (with_reducible refine (Encode_yes n hn _).mono ?_) | refine (Encode_yes n hn _).mono ?_
  rintro e w2 ⟨b, rfl, hb, hb2⟩
  go_wp2_with fail
  first | (with_reducible refine (list_small v xs _ (HV.out.keep (bt hb1 hb2))).mono ?_) | refine (list_small v xs _ (HV.out.keep (bt hb1 hb2))).mono ?_
  rintro e w3 ⟨x1, rfl, g1, hb3⟩
  go_wp2_with fail
  refine (Value_not x1 _ HX.out (bounds_take HB.out) _ g1).mono ?_
  rintro e _ ⟨⟨s, rfl, hs1⟩, rfl⟩
  go_wp2_with fail
  first | (with_reducible refine (clone_z a m hm _ (ha.keep (bt hb2 hb3))).mono ?_) | refine (clone_z a m hm _ (ha.keep (bt hb2 hb3))).mono ?_
  rintro e w4 ⟨c1, rfl, i1, hb4⟩
  go_wp2_with fail
  first | (with_reducible refine (Value_zeck c1 m hm _ i1).mono ?_) | refine (Value_zeck c1 m hm _ i1).mono ?_
  rintro e _ ⟨rfl, rfl⟩
  go_wp2_with fail
  first | (with_reducible refine (clone_z b n hn _ (hb.keep (bt hb3 hb4))).mono ?_) | refine (clone_z b n hn _ (hb.keep (bt hb3 hb4))).mono ?_
  rintro e w5 ⟨c2, rfl, i2, hb5⟩
  go_wp2_with fail
  first | (with_reducible refine (Value_zeck c2 n hn _ i2).mono ?_) | refine (Value_zeck c2 n hn _ i2).mono ?_
  rintro e _ ⟨rfl, rfl⟩
  go_wp2_with fail
  first | (with_reducible refine (clone_z a m hm _ (ha.keep (bt (bt (bt hb2 hb3) hb4) hb5))).mono ?_) | refine (clone_z a m hm _ (ha.keep (bt (bt (bt hb2 hb3) hb4) hb5))).mono ?_
  rintro e w6 ⟨c3, rfl, i3, hb6⟩
  go_wp2_with fail
  first | (with_reducible refine (clone_z b n hn _ (hb.keep (bt (bt (bt hb3 hb4) hb5) hb6))).mono ?_) | refine (clone_z b n hn _ (hb.keep (bt (bt (bt hb3 hb4) hb5) hb6))).mono ?_
  rintro e w7 ⟨c4, rfl, i4, hb7⟩
  go_wp2_with fail
  first | (with_reducible refine (Less_ztrue c3 c4 m n hm hn HC.out _ (i3.keep hb7) i4).mono ?_) | refine (Less_ztrue c3 c4 m n hm hn HC.out _ (i3.keep hb7) i4).mono ?_
  rintro e _ ⟨rfl, rfl⟩
  go_wp2_with fail
  first | (with_reducible refine (compare_zlt a b m n hm hn HC.out _ (ha.keep (bt (bt (bt (bt (bt hb2 hb3) hb4) hb5) hb6) hb7)) (hb.keep (bt (bt (bt (bt hb3 hb4) hb5) hb6) hb7))).mono ?_) | refine (compare_zlt a b m n hm hn HC.out _ (ha.keep (bt (bt (bt (bt (bt hb2 hb3) hb4) hb5) hb6) hb7)) (hb.keep (bt (bt (bt (bt hb3 hb4) hb5) hb6) hb7))).mono ?_
  rintro e _ ⟨rfl, rfl⟩
  go_wp2_with fail
  first | (with_reducible refine (clone_z a m hm _ (ha.keep (bt (bt (bt (bt (bt hb2 hb3) hb4) hb5) hb6) hb7))).mono ?_) | refine (clone_z a m hm _ (ha.keep (bt (bt (bt (bt (bt hb2 hb3) hb4) hb5) hb6) hb7))).mono ?_
  rintro e w8 ⟨c5, rfl, i5, hb8⟩
  go_wp2_with fail
  first | (with_reducible refine (clone_z b n hn _ (hb.keep (bt (bt (bt (bt (bt hb3 hb4) hb5) hb6) hb7) hb8))).mono ?_) | refine (clone_z b n hn _ (hb.keep (bt (bt (bt (bt (bt hb3 hb4) hb5) hb6) hb7) hb8))).mono ?_
  rintro e w9 ⟨c6, rfl, i6, hb9⟩
  go_wp2_with fail
  first | (with_reducible refine (Add_zeck c5 c6 m n hm hn HSUM.out _ (i5.keep hb9) i6).mono ?_) | refine (Add_zeck c5 c6 m n hm hn HSUM.out _ (i5.keep hb9) i6).mono ?_
  rintro e w10 ⟨s6, rfl, i7, hb10⟩
  go_wp2_with fail
  first | (with_reducible refine (Value_sum s6 m n HSUM.out _ i7).mono ?_) | refine (Value_sum s6 m n HSUM.out _ i7).mono ?_
  rintro e _ ⟨rfl, rfl⟩
  go_wp2_with fail
  first | (with_reducible refine (awake_any _).mono ?_) | refine (awake_any _).mono ?_
  rintro e w11 ⟨rfl, hb11⟩
  go_wp2
  go_ret
  exact ⟨rfl, (bt (bt (bt (bt (bt (bt (bt (bt (bt (bt hb1 hb2) hb3) hb4) hb5) hb6) hb7) hb8) hb9) hb10) hb11)⟩

set_option maxHeartbeats 8000000 in
theorem back_X_yes_false (w : World) (m n : Nat) (hm : m ≤ 1000000000000) (hn : n ≤ 1000000000000) (hsum : m + n ≤ 1000000000000) (hc : ¬ m < n) (v : Value) (xs : List Int) (hv : Ints w v xs) (hbd : ∀ n ∈ xs, -9223372036854775808 ≤ n ∧ n ≤ 9223372036854775807) (hx : ¬ (IsNum (xs.take 40) ∧ ∀ l, xs.take 40 = ix l → vsum F l ≤ 1000000000000))  :
    Calls Try.prog 14 #[.int .i64 m, .int .i64 n, v] w fun e w' => e = .returned (.bool true) ∧ Below w.heap.size w w' := by
  have hd1 : decide ((m : Int) + n ≤ 1000000000000) = true := decide_eq_true (by omega)
  have hd : decide (m < n) = false := decide_eq_false (by omega)
  have HSUM := Lib.hid hsum
  have HC := Lib.hid hc
  clear hc
  have HV := Lib.hid hv; clear hv
  have HB := Lib.hid hbd; clear hbd
  have HX := Lib.hid hx; clear hx
  go_enter Try.func14, Try.ntmps14
  go_wp2_with fail
  first | (with_reducible refine (Encode_yes m hm _).mono ?_) | refine (Encode_yes m hm _).mono ?_
  rintro e w1 ⟨a, rfl, ha, hb1⟩
  go_wp2_with fail
  first | (with_reducible refine (Encode_yes n hn _).mono ?_) | refine (Encode_yes n hn _).mono ?_
  rintro e w2 ⟨b, rfl, hb, hb2⟩
  go_wp2_with fail
  first | (with_reducible refine (list_small v xs _ (HV.out.keep (bt hb1 hb2))).mono ?_) | refine (list_small v xs _ (HV.out.keep (bt hb1 hb2))).mono ?_
  rintro e w3 ⟨x1, rfl, g1, hb3⟩
  go_wp2_with fail
  refine (Value_not x1 _ HX.out (bounds_take HB.out) _ g1).mono ?_
  rintro e _ ⟨⟨s, rfl, hs1⟩, rfl⟩
  go_wp2_with fail
  first | (with_reducible refine (clone_z a m hm _ (ha.keep (bt hb2 hb3))).mono ?_) | refine (clone_z a m hm _ (ha.keep (bt hb2 hb3))).mono ?_
  rintro e w4 ⟨c1, rfl, i1, hb4⟩
  go_wp2_with fail
  first | (with_reducible refine (Value_zeck c1 m hm _ i1).mono ?_) | refine (Value_zeck c1 m hm _ i1).mono ?_
  rintro e _ ⟨rfl, rfl⟩
  go_wp2_with fail
  first | (with_reducible refine (clone_z b n hn _ (hb.keep (bt hb3 hb4))).mono ?_) | refine (clone_z b n hn _ (hb.keep (bt hb3 hb4))).mono ?_
  rintro e w5 ⟨c2, rfl, i2, hb5⟩
  go_wp2_with fail
  first | (with_reducible refine (Value_zeck c2 n hn _ i2).mono ?_) | refine (Value_zeck c2 n hn _ i2).mono ?_
  rintro e _ ⟨rfl, rfl⟩
  go_wp2_with fail
  first | (with_reducible refine (clone_z a m hm _ (ha.keep (bt (bt (bt hb2 hb3) hb4) hb5))).mono ?_) | refine (clone_z a m hm _ (ha.keep (bt (bt (bt hb2 hb3) hb4) hb5))).mono ?_
  rintro e w6 ⟨c3, rfl, i3, hb6⟩
  go_wp2_with fail
  first | (with_reducible refine (clone_z b n hn _ (hb.keep (bt (bt (bt hb3 hb4) hb5) hb6))).mono ?_) | refine (clone_z b n hn _ (hb.keep (bt (bt (bt hb3 hb4) hb5) hb6))).mono ?_
  rintro e w7 ⟨c4, rfl, i4, hb7⟩
  go_wp2_with fail
  first | (with_reducible refine (Less_zfalse c3 c4 m n hm hn HC.out _ (i3.keep hb7) i4).mono ?_) | refine (Less_zfalse c3 c4 m n hm hn HC.out _ (i3.keep hb7) i4).mono ?_
  rintro e _ ⟨rfl, rfl⟩
  go_wp2_with fail
  refine (compare_zge a b m n hm hn HC.out _ (ha.keep (bt (bt (bt (bt (bt hb2 hb3) hb4) hb5) hb6) hb7)) (hb.keep (bt (bt (bt (bt hb3 hb4) hb5) hb6) hb7))).mono ?_
  rintro e _ ⟨⟨c, rfl, hc⟩, rfl⟩
  have hc0 : decide (c < 0) = false := decide_eq_false (by omega)
  clear hc
  go_wp2_with fail
  first | (with_reducible refine (clone_z a m hm _ (ha.keep (bt (bt (bt (bt (bt hb2 hb3) hb4) hb5) hb6) hb7))).mono ?_) | refine (clone_z a m hm _ (ha.keep (bt (bt (bt (bt (bt hb2 hb3) hb4) hb5) hb6) hb7))).mono ?_
  rintro e w8 ⟨c5, rfl, i5, hb8⟩
  go_wp2_with fail
  first | (with_reducible refine (clone_z b n hn _ (hb.keep (bt (bt (bt (bt (bt hb3 hb4) hb5) hb6) hb7) hb8))).mono ?_) | refine (clone_z b n hn _ (hb.keep (bt (bt (bt (bt (bt hb3 hb4) hb5) hb6) hb7) hb8))).mono ?_
  rintro e w9 ⟨c6, rfl, i6, hb9⟩
  go_wp2_with fail
  first | (with_reducible refine (Add_zeck c5 c6 m n hm hn HSUM.out _ (i5.keep hb9) i6).mono ?_) | refine (Add_zeck c5 c6 m n hm hn HSUM.out _ (i5.keep hb9) i6).mono ?_
  rintro e w10 ⟨s6, rfl, i7, hb10⟩
  go_wp2_with fail
  first | (with_reducible refine (Value_sum s6 m n HSUM.out _ i7).mono ?_) | refine (Value_sum s6 m n HSUM.out _ i7).mono ?_
  rintro e _ ⟨rfl, rfl⟩
  go_wp2_with fail
  first | (with_reducible refine (awake_any _).mono ?_) | refine (awake_any _).mono ?_
  rintro e w11 ⟨rfl, hb11⟩
  go_wp2
  go_ret
  exact ⟨rfl, (bt (bt (bt (bt (bt (bt (bt (bt (bt (bt hb1 hb2) hb3) hb4) hb5) hb6) hb7) hb8) hb9) hb10) hb11)⟩

set_option maxHeartbeats 8000000 in
theorem back_X_big_true (w : World) (m n : Nat) (hm : m ≤ 1000000000000) (hn : n ≤ 1000000000000) (hsum : 1000000000000 < m + n) (hc : m < n) (v : Value) (xs : List Int) (hv : Ints w v xs) (hbd : ∀ n ∈ xs, -9223372036854775808 ≤ n ∧ n ≤ 9223372036854775807) (hx : ¬ (IsNum (xs.take 40) ∧ ∀ l, xs.take 40 = ix l → vsum F l ≤ 1000000000000))  :
    Calls Try.prog 14 #[.int .i64 m, .int .i64 n, v] w fun e w' => e = .returned (.bool true) ∧ Below w.heap.size w w' := by
  have hd1 : decide ((m : Int) + n ≤ 1000000000000) = false := decide_eq_false (by omega)
  have hd : decide (m < n) = true := decide_eq_true (by omega)
  have HSUM := Lib.hid hsum
  have HC := Lib.hid hc
  clear hc
  have HV := Lib.hid hv; clear hv
  have HB := Lib.hid hbd; clear hbd
  have HX := Lib.hid hx; clear hx
  go_enter Try.func14, Try.ntmps14
  go_wp2_with fail
  first | (with_reducible refine (Encode_yes m hm _).mono ?_) | refine (Encode_yes m hm _).mono ?_
  rintro e w1 ⟨a, rfl, ha, hb1⟩
  go_wp2_with fail
  first | (with_reducible refine (Encode_yes n hn _).mono ?_) | refine (Encode_yes n hn _).mono ?_
  rintro e w2 ⟨b, rfl, hb, hb2⟩
  go_wp2_with fail
  first | (with_reducible refine (list_small v xs _ (HV.out.keep (bt hb1 hb2))).mono ?_) | refine (list_small v xs _ (HV.out.keep (bt hb1 hb2))).mono ?_
  rintro e w3 ⟨x1, rfl, g1, hb3⟩
  go_wp2_with fail
  refine (Value_not x1 _ HX.out (bounds_take HB.out) _ g1).mono ?_
  rintro e _ ⟨⟨s, rfl, hs1⟩, rfl⟩
  go_wp2_with fail
  first | (with_reducible refine (clone_z a m hm _ (ha.keep (bt hb2 hb3))).mono ?_) | refine (clone_z a m hm _ (ha.keep (bt hb2 hb3))).mono ?_
  rintro e w4 ⟨c1, rfl, i1, hb4⟩
  go_wp2_with fail
  first | (with_reducible refine (Value_zeck c1 m hm _ i1).mono ?_) | refine (Value_zeck c1 m hm _ i1).mono ?_
  rintro e _ ⟨rfl, rfl⟩
  go_wp2_with fail
  first | (with_reducible refine (clone_z b n hn _ (hb.keep (bt hb3 hb4))).mono ?_) | refine (clone_z b n hn _ (hb.keep (bt hb3 hb4))).mono ?_
  rintro e w5 ⟨c2, rfl, i2, hb5⟩
  go_wp2_with fail
  first | (with_reducible refine (Value_zeck c2 n hn _ i2).mono ?_) | refine (Value_zeck c2 n hn _ i2).mono ?_
  rintro e _ ⟨rfl, rfl⟩
  go_wp2_with fail
  first | (with_reducible refine (clone_z a m hm _ (ha.keep (bt (bt (bt hb2 hb3) hb4) hb5))).mono ?_) | refine (clone_z a m hm _ (ha.keep (bt (bt (bt hb2 hb3) hb4) hb5))).mono ?_
  rintro e w6 ⟨c3, rfl, i3, hb6⟩
  go_wp2_with fail
  first | (with_reducible refine (clone_z b n hn _ (hb.keep (bt (bt (bt hb3 hb4) hb5) hb6))).mono ?_) | refine (clone_z b n hn _ (hb.keep (bt (bt (bt hb3 hb4) hb5) hb6))).mono ?_
  rintro e w7 ⟨c4, rfl, i4, hb7⟩
  go_wp2_with fail
  first | (with_reducible refine (Less_ztrue c3 c4 m n hm hn HC.out _ (i3.keep hb7) i4).mono ?_) | refine (Less_ztrue c3 c4 m n hm hn HC.out _ (i3.keep hb7) i4).mono ?_
  rintro e _ ⟨rfl, rfl⟩
  go_wp2_with fail
  first | (with_reducible refine (compare_zlt a b m n hm hn HC.out _ (ha.keep (bt (bt (bt (bt (bt hb2 hb3) hb4) hb5) hb6) hb7)) (hb.keep (bt (bt (bt (bt hb3 hb4) hb5) hb6) hb7))).mono ?_) | refine (compare_zlt a b m n hm hn HC.out _ (ha.keep (bt (bt (bt (bt (bt hb2 hb3) hb4) hb5) hb6) hb7)) (hb.keep (bt (bt (bt (bt hb3 hb4) hb5) hb6) hb7))).mono ?_
  rintro e _ ⟨rfl, rfl⟩
  go_wp2_with fail
  first | (with_reducible refine (clone_z a m hm _ (ha.keep (bt (bt (bt (bt (bt hb2 hb3) hb4) hb5) hb6) hb7))).mono ?_) | refine (clone_z a m hm _ (ha.keep (bt (bt (bt (bt (bt hb2 hb3) hb4) hb5) hb6) hb7))).mono ?_
  rintro e w8 ⟨c5, rfl, i5, hb8⟩
  go_wp2_with fail
  first | (with_reducible refine (clone_z b n hn _ (hb.keep (bt (bt (bt (bt (bt hb3 hb4) hb5) hb6) hb7) hb8))).mono ?_) | refine (clone_z b n hn _ (hb.keep (bt (bt (bt (bt (bt hb3 hb4) hb5) hb6) hb7) hb8))).mono ?_
  rintro e w9 ⟨c6, rfl, i6, hb9⟩
  go_wp2_with fail
  first | (with_reducible refine (Add_zbig c5 c6 m n hm hn HSUM.out _ (i5.keep hb9) i6).mono ?_) | refine (Add_zbig c5 c6 m n hm hn HSUM.out _ (i5.keep hb9) i6).mono ?_
  rintro e _ ⟨rfl, rfl⟩
  go_wp2_with fail
  first | (with_reducible refine (awake_any _).mono ?_) | refine (awake_any _).mono ?_
  rintro e w10 ⟨rfl, hb10⟩
  go_wp2
  go_ret
  exact ⟨rfl, (bt (bt (bt (bt (bt (bt (bt (bt (bt hb1 hb2) hb3) hb4) hb5) hb6) hb7) hb8) hb9) hb10)⟩

set_option maxHeartbeats 8000000 in
theorem back_X_big_false (w : World) (m n : Nat) (hm : m ≤ 1000000000000) (hn : n ≤ 1000000000000) (hsum : 1000000000000 < m + n) (hc : ¬ m < n) (v : Value) (xs : List Int) (hv : Ints w v xs) (hbd : ∀ n ∈ xs, -9223372036854775808 ≤ n ∧ n ≤ 9223372036854775807) (hx : ¬ (IsNum (xs.take 40) ∧ ∀ l, xs.take 40 = ix l → vsum F l ≤ 1000000000000))  :
    Calls Try.prog 14 #[.int .i64 m, .int .i64 n, v] w fun e w' => e = .returned (.bool true) ∧ Below w.heap.size w w' := by
  have hd1 : decide ((m : Int) + n ≤ 1000000000000) = false := decide_eq_false (by omega)
  have hd : decide (m < n) = false := decide_eq_false (by omega)
  have HSUM := Lib.hid hsum
  have HC := Lib.hid hc
  clear hc
  have HV := Lib.hid hv; clear hv
  have HB := Lib.hid hbd; clear hbd
  have HX := Lib.hid hx; clear hx
  go_enter Try.func14, Try.ntmps14
  go_wp2_with fail
  first | (with_reducible refine (Encode_yes m hm _).mono ?_) | refine (Encode_yes m hm _).mono ?_
  rintro e w1 ⟨a, rfl, ha, hb1⟩
  go_wp2_with fail
  first | (with_reducible refine (Encode_yes n hn _).mono ?_) | refine (Encode_yes n hn _).mono ?_
  rintro e w2 ⟨b, rfl, hb, hb2⟩
  go_wp2_with fail
  first | (with_reducible refine (list_small v xs _ (HV.out.keep (bt hb1 hb2))).mono ?_) | refine (list_small v xs _ (HV.out.keep (bt hb1 hb2))).mono ?_
  rintro e w3 ⟨x1, rfl, g1, hb3⟩
  go_wp2_with fail
  refine (Value_not x1 _ HX.out (bounds_take HB.out) _ g1).mono ?_
  rintro e _ ⟨⟨s, rfl, hs1⟩, rfl⟩
  go_wp2_with fail
  first | (with_reducible refine (clone_z a m hm _ (ha.keep (bt hb2 hb3))).mono ?_) | refine (clone_z a m hm _ (ha.keep (bt hb2 hb3))).mono ?_
  rintro e w4 ⟨c1, rfl, i1, hb4⟩
  go_wp2_with fail
  first | (with_reducible refine (Value_zeck c1 m hm _ i1).mono ?_) | refine (Value_zeck c1 m hm _ i1).mono ?_
  rintro e _ ⟨rfl, rfl⟩
  go_wp2_with fail
  first | (with_reducible refine (clone_z b n hn _ (hb.keep (bt hb3 hb4))).mono ?_) | refine (clone_z b n hn _ (hb.keep (bt hb3 hb4))).mono ?_
  rintro e w5 ⟨c2, rfl, i2, hb5⟩
  go_wp2_with fail
  first | (with_reducible refine (Value_zeck c2 n hn _ i2).mono ?_) | refine (Value_zeck c2 n hn _ i2).mono ?_
  rintro e _ ⟨rfl, rfl⟩
  go_wp2_with fail
  first | (with_reducible refine (clone_z a m hm _ (ha.keep (bt (bt (bt hb2 hb3) hb4) hb5))).mono ?_) | refine (clone_z a m hm _ (ha.keep (bt (bt (bt hb2 hb3) hb4) hb5))).mono ?_
  rintro e w6 ⟨c3, rfl, i3, hb6⟩
  go_wp2_with fail
  first | (with_reducible refine (clone_z b n hn _ (hb.keep (bt (bt (bt hb3 hb4) hb5) hb6))).mono ?_) | refine (clone_z b n hn _ (hb.keep (bt (bt (bt hb3 hb4) hb5) hb6))).mono ?_
  rintro e w7 ⟨c4, rfl, i4, hb7⟩
  go_wp2_with fail
  first | (with_reducible refine (Less_zfalse c3 c4 m n hm hn HC.out _ (i3.keep hb7) i4).mono ?_) | refine (Less_zfalse c3 c4 m n hm hn HC.out _ (i3.keep hb7) i4).mono ?_
  rintro e _ ⟨rfl, rfl⟩
  go_wp2_with fail
  refine (compare_zge a b m n hm hn HC.out _ (ha.keep (bt (bt (bt (bt (bt hb2 hb3) hb4) hb5) hb6) hb7)) (hb.keep (bt (bt (bt (bt hb3 hb4) hb5) hb6) hb7))).mono ?_
  rintro e _ ⟨⟨c, rfl, hc⟩, rfl⟩
  have hc0 : decide (c < 0) = false := decide_eq_false (by omega)
  clear hc
  go_wp2_with fail
  first | (with_reducible refine (clone_z a m hm _ (ha.keep (bt (bt (bt (bt (bt hb2 hb3) hb4) hb5) hb6) hb7))).mono ?_) | refine (clone_z a m hm _ (ha.keep (bt (bt (bt (bt (bt hb2 hb3) hb4) hb5) hb6) hb7))).mono ?_
  rintro e w8 ⟨c5, rfl, i5, hb8⟩
  go_wp2_with fail
  first | (with_reducible refine (clone_z b n hn _ (hb.keep (bt (bt (bt (bt (bt hb3 hb4) hb5) hb6) hb7) hb8))).mono ?_) | refine (clone_z b n hn _ (hb.keep (bt (bt (bt (bt (bt hb3 hb4) hb5) hb6) hb7) hb8))).mono ?_
  rintro e w9 ⟨c6, rfl, i6, hb9⟩
  go_wp2_with fail
  first | (with_reducible refine (Add_zbig c5 c6 m n hm hn HSUM.out _ (i5.keep hb9) i6).mono ?_) | refine (Add_zbig c5 c6 m n hm hn HSUM.out _ (i5.keep hb9) i6).mono ?_
  rintro e _ ⟨rfl, rfl⟩
  go_wp2_with fail
  first | (with_reducible refine (awake_any _).mono ?_) | refine (awake_any _).mono ?_
  rintro e w10 ⟨rfl, hb10⟩
  go_wp2
  go_ret
  exact ⟨rfl, (bt (bt (bt (bt (bt (bt (bt (bt (bt hb1 hb2) hb3) hb4) hb5) hb6) hb7) hb8) hb9) hb10)⟩

set_option maxHeartbeats 4000000 in
theorem back_L_n1 (w : World) (m n : Int) (hm : m < 0 ∨ 1000000000000 < m) (hn : n < 0 ∨ 1000000000000 < n) (v : Value) (l : List Nat) (hv : Ints w v (ix l)) (hl : Falls 60 l) (hs : vsum F l ≤ 1000000000000)  :
    Calls Try.prog 14 #[.int .i64 m, .int .i64 n, v] w fun e w' => e = .returned (.bool true) ∧ Below w.heap.size w w' := by
  have HM := Lib.hid hm; clear hm
  have HN := Lib.hid hn; clear hn
  have HV := Lib.hid hv; clear hv
  have HL := Lib.hid hl; clear hl
  have HS := Lib.hid hs; clear hs
  go_enter Try.func14, Try.ntmps14
  go_wp2_with fail
  first | (with_reducible refine (Encode_no m HM.out _).mono ?_) | refine (Encode_no m HM.out _).mono ?_
  rintro e _ ⟨rfl, rfl⟩
  go_wp2_with fail
  first | (with_reducible refine (Encode_no n HN.out _).mono ?_) | refine (Encode_no n HN.out _).mono ?_
  rintro e _ ⟨rfl, rfl⟩
  go_wp2_with fail
  first | (with_reducible refine (list_num v l HL.out _ (HV.out.keep (Below.refl _ _))).mono ?_) | refine (list_num v l HL.out _ (HV.out.keep (Below.refl _ _))).mono ?_
  rintro e w1 ⟨x1, rfl, g1, hb1⟩
  go_wp2_with fail
  first | (with_reducible refine (Value_yes x1 l HL.out HS.out _ g1).mono ?_) | refine (Value_yes x1 l HL.out HS.out _ g1).mono ?_
  rintro e _ ⟨rfl, rfl⟩
  go_wp2_with fail
  first | (with_reducible refine (Encode_sum l HL.out HS.out _).mono ?_) | refine (Encode_sum l HL.out HS.out _).mono ?_
  rintro e w2 ⟨x2, rfl, g2, hb2⟩
  go_wp2_with fail
  first | (with_reducible refine (equal_yes x2 v (ix l) _ g2 (HV.out.keep (bt hb1 hb2))).mono ?_) | refine (equal_yes x2 v (ix l) _ g2 (HV.out.keep (bt hb1 hb2))).mono ?_
  rintro e w3 ⟨rfl, hb3⟩
  go_wp2_with fail
  first | (with_reducible refine (awake_any _).mono ?_) | refine (awake_any _).mono ?_
  rintro e w4 ⟨rfl, hb4⟩
  go_wp2
  go_ret
  exact ⟨rfl, (bt (bt (bt hb1 hb2) hb3) hb4)⟩

set_option maxHeartbeats 4000000 in
theorem back_L_n2 (w : World) (m : Int) (n : Nat) (hm : m < 0 ∨ 1000000000000 < m) (hn : n ≤ 1000000000000) (v : Value) (l : List Nat) (hv : Ints w v (ix l)) (hl : Falls 60 l) (hs : vsum F l ≤ 1000000000000)  :
    Calls Try.prog 14 #[.int .i64 m, .int .i64 n, v] w fun e w' => e = .returned (.bool true) ∧ Below w.heap.size w w' := by
  have HM := Lib.hid hm; clear hm
  have HV := Lib.hid hv; clear hv
  have HL := Lib.hid hl; clear hl
  have HS := Lib.hid hs; clear hs
  go_enter Try.func14, Try.ntmps14
  go_wp2_with fail
  first | (with_reducible refine (Encode_no m HM.out _).mono ?_) | refine (Encode_no m HM.out _).mono ?_
  rintro e _ ⟨rfl, rfl⟩
  go_wp2_with fail
  first | (with_reducible refine (Encode_yes n hn _).mono ?_) | refine (Encode_yes n hn _).mono ?_
  rintro e w1 ⟨b, rfl, hb, hb1⟩
  go_wp2_with fail
  first | (with_reducible refine (list_num v l HL.out _ (HV.out.keep hb1)).mono ?_) | refine (list_num v l HL.out _ (HV.out.keep hb1)).mono ?_
  rintro e w2 ⟨x1, rfl, g1, hb2⟩
  go_wp2_with fail
  first | (with_reducible refine (Value_yes x1 l HL.out HS.out _ g1).mono ?_) | refine (Value_yes x1 l HL.out HS.out _ g1).mono ?_
  rintro e _ ⟨rfl, rfl⟩
  go_wp2_with fail
  first | (with_reducible refine (Encode_sum l HL.out HS.out _).mono ?_) | refine (Encode_sum l HL.out HS.out _).mono ?_
  rintro e w3 ⟨x2, rfl, g2, hb3⟩
  go_wp2_with fail
  first | (with_reducible refine (equal_yes x2 v (ix l) _ g2 (HV.out.keep (bt (bt hb1 hb2) hb3))).mono ?_) | refine (equal_yes x2 v (ix l) _ g2 (HV.out.keep (bt (bt hb1 hb2) hb3))).mono ?_
  rintro e w4 ⟨rfl, hb4⟩
  go_wp2_with fail
  first | (with_reducible refine (awake_any _).mono ?_) | refine (awake_any _).mono ?_
  rintro e w5 ⟨rfl, hb5⟩
  go_wp2
  go_ret
  exact ⟨rfl, (bt (bt (bt (bt hb1 hb2) hb3) hb4) hb5)⟩

set_option maxHeartbeats 4000000 in
theorem back_L_n3 (w : World) (m : Nat) (n : Int) (hm : m ≤ 1000000000000) (hn : n < 0 ∨ 1000000000000 < n) (v : Value) (l : List Nat) (hv : Ints w v (ix l)) (hl : Falls 60 l) (hs : vsum F l ≤ 1000000000000)  :
    Calls Try.prog 14 #[.int .i64 m, .int .i64 n, v] w fun e w' => e = .returned (.bool true) ∧ Below w.heap.size w w' := by
  have HN := Lib.hid hn; clear hn
  have HV := Lib.hid hv; clear hv
  have HL := Lib.hid hl; clear hl
  have HS := Lib.hid hs; clear hs
  go_enter Try.func14, Try.ntmps14
  go_wp2_with fail
  first | (with_reducible refine (Encode_yes m hm _).mono ?_) | refine (Encode_yes m hm _).mono ?_
  rintro e w1 ⟨a, rfl, ha, hb1⟩
  go_wp2_with fail
  first | (with_reducible refine (Encode_no n HN.out _).mono ?_) | refine (Encode_no n HN.out _).mono ?_
  rintro e _ ⟨rfl, rfl⟩
  go_wp2_with fail
  first | (with_reducible refine (list_num v l HL.out _ (HV.out.keep hb1)).mono ?_) | refine (list_num v l HL.out _ (HV.out.keep hb1)).mono ?_
  rintro e w2 ⟨x1, rfl, g1, hb2⟩
  go_wp2_with fail
  first | (with_reducible refine (Value_yes x1 l HL.out HS.out _ g1).mono ?_) | refine (Value_yes x1 l HL.out HS.out _ g1).mono ?_
  rintro e _ ⟨rfl, rfl⟩
  go_wp2_with fail
  first | (with_reducible refine (Encode_sum l HL.out HS.out _).mono ?_) | refine (Encode_sum l HL.out HS.out _).mono ?_
  rintro e w3 ⟨x2, rfl, g2, hb3⟩
  go_wp2_with fail
  first | (with_reducible refine (equal_yes x2 v (ix l) _ g2 (HV.out.keep (bt (bt hb1 hb2) hb3))).mono ?_) | refine (equal_yes x2 v (ix l) _ g2 (HV.out.keep (bt (bt hb1 hb2) hb3))).mono ?_
  rintro e w4 ⟨rfl, hb4⟩
  go_wp2_with fail
  first | (with_reducible refine (awake_any _).mono ?_) | refine (awake_any _).mono ?_
  rintro e w5 ⟨rfl, hb5⟩
  go_wp2
  go_ret
  exact ⟨rfl, (bt (bt (bt (bt hb1 hb2) hb3) hb4) hb5)⟩

set_option maxHeartbeats 8000000 in
theorem back_L_yes_true (w : World) (m n : Nat) (hm : m ≤ 1000000000000) (hn : n ≤ 1000000000000) (hsum : m + n ≤ 1000000000000) (hc : m < n) (v : Value) (l : List Nat) (hv : Ints w v (ix l)) (hl : Falls 60 l) (hs : vsum F l ≤ 1000000000000)  :
    Calls Try.prog 14 #[.int .i64 m, .int .i64 n, v] w fun e w' => e = .returned (.bool true) ∧ Below w.heap.size w w' := by
  have hd1 : decide ((m : Int) + n ≤ 1000000000000) = true := decide_eq_true (by omega)
  have hd : decide (m < n) = true := decide_eq_true (by omega)
  have HSUM := Lib.hid hsum
  have HC := Lib.hid hc
  clear hc
  have HV := Lib.hid hv; clear hv
  have HL := Lib.hid hl; clear hl
  have HS := Lib.hid hs; clear hs
  go_enter Try.func14, Try.ntmps14
  go_wp2_with fail
  first | (with_reducible refine (Encode_yes m hm _).mono ?_) | refine (Encode_yes m hm _).mono ?_
  rintro e w1 ⟨a, rfl, ha, hb1⟩
  go_wp2_with fail
  first | (with_reducible refine (Encode_yes n hn _).mono ?_) | refine (Encode_yes n hn _).mono ?_
  rintro e w2 ⟨b, rfl, hb, hb2⟩
  go_wp2_with fail
  first | (with_reducible refine (list_num v l HL.out _ (HV.out.keep (bt hb1 hb2))).mono ?_) | refine (list_num v l HL.out _ (HV.out.keep (bt hb1 hb2))).mono ?_
  rintro e w3 ⟨x1, rfl, g1, hb3⟩
  go_wp2_with fail
  first | (with_reducible refine (Value_yes x1 l HL.out HS.out _ g1).mono ?_) | refine (Value_yes x1 l HL.out HS.out _ g1).mono ?_
  rintro e _ ⟨rfl, rfl⟩
  go_wp2_with fail
  first | (with_reducible refine (Encode_sum l HL.out HS.out _).mono ?_) | refine (Encode_sum l HL.out HS.out _).mono ?_
  rintro e w4 ⟨x2, rfl, g2, hb4⟩
  go_wp2_with fail
  first | (with_reducible refine (equal_yes x2 v (ix l) _ g2 (HV.out.keep (bt (bt (bt hb1 hb2) hb3) hb4))).mono ?_) | refine (equal_yes x2 v (ix l) _ g2 (HV.out.keep (bt (bt (bt hb1 hb2) hb3) hb4))).mono ?_
  rintro e w5 ⟨rfl, hb5⟩
  go_wp2_with fail
  first | (with_reducible refine (clone_z a m hm _ (ha.keep (bt (bt (bt hb2 hb3) hb4) hb5))).mono ?_) | refine (clone_z a m hm _ (ha.keep (bt (bt (bt hb2 hb3) hb4) hb5))).mono ?_
  rintro e w6 ⟨c1, rfl, i1, hb6⟩
  go_wp2_with fail
  first | (with_reducible refine (Value_zeck c1 m hm _ i1).mono ?_) | refine (Value_zeck c1 m hm _ i1).mono ?_
  rintro e _ ⟨rfl, rfl⟩
  go_wp2_with fail
  first | (with_reducible refine (clone_z b n hn _ (hb.keep (bt (bt (bt hb3 hb4) hb5) hb6))).mono ?_) | refine (clone_z b n hn _ (hb.keep (bt (bt (bt hb3 hb4) hb5) hb6))).mono ?_
  rintro e w7 ⟨c2, rfl, i2, hb7⟩
  go_wp2_with fail
  first | (with_reducible refine (Value_zeck c2 n hn _ i2).mono ?_) | refine (Value_zeck c2 n hn _ i2).mono ?_
  rintro e _ ⟨rfl, rfl⟩
  go_wp2_with fail
  first | (with_reducible refine (clone_z a m hm _ (ha.keep (bt (bt (bt (bt (bt hb2 hb3) hb4) hb5) hb6) hb7))).mono ?_) | refine (clone_z a m hm _ (ha.keep (bt (bt (bt (bt (bt hb2 hb3) hb4) hb5) hb6) hb7))).mono ?_
  rintro e w8 ⟨c3, rfl, i3, hb8⟩
  go_wp2_with fail
  first | (with_reducible refine (clone_z b n hn _ (hb.keep (bt (bt (bt (bt (bt hb3 hb4) hb5) hb6) hb7) hb8))).mono ?_) | refine (clone_z b n hn _ (hb.keep (bt (bt (bt (bt (bt hb3 hb4) hb5) hb6) hb7) hb8))).mono ?_
  rintro e w9 ⟨c4, rfl, i4, hb9⟩
  go_wp2_with fail
  first | (with_reducible refine (Less_ztrue c3 c4 m n hm hn HC.out _ (i3.keep hb9) i4).mono ?_) | refine (Less_ztrue c3 c4 m n hm hn HC.out _ (i3.keep hb9) i4).mono ?_
  rintro e _ ⟨rfl, rfl⟩
  go_wp2_with fail
  first | (with_reducible refine (compare_zlt a b m n hm hn HC.out _ (ha.keep (bt (bt (bt (bt (bt (bt (bt hb2 hb3) hb4) hb5) hb6) hb7) hb8) hb9)) (hb.keep (bt (bt (bt (bt (bt (bt hb3 hb4) hb5) hb6) hb7) hb8) hb9))).mono ?_) | refine (compare_zlt a b m n hm hn HC.out _ (ha.keep (bt (bt (bt (bt (bt (bt (bt hb2 hb3) hb4) hb5) hb6) hb7) hb8) hb9)) (hb.keep (bt (bt (bt (bt (bt (bt hb3 hb4) hb5) hb6) hb7) hb8) hb9))).mono ?_
  rintro e _ ⟨rfl, rfl⟩
  go_wp2_with fail
  first | (with_reducible refine (clone_z a m hm _ (ha.keep (bt (bt (bt (bt (bt (bt (bt hb2 hb3) hb4) hb5) hb6) hb7) hb8) hb9))).mono ?_) | refine (clone_z a m hm _ (ha.keep (bt (bt (bt (bt (bt (bt (bt hb2 hb3) hb4) hb5) hb6) hb7) hb8) hb9))).mono ?_
  rintro e w10 ⟨c5, rfl, i5, hb10⟩
  go_wp2_with fail
  first | (with_reducible refine (clone_z b n hn _ (hb.keep (bt (bt (bt (bt (bt (bt (bt hb3 hb4) hb5) hb6) hb7) hb8) hb9) hb10))).mono ?_) | refine (clone_z b n hn _ (hb.keep (bt (bt (bt (bt (bt (bt (bt hb3 hb4) hb5) hb6) hb7) hb8) hb9) hb10))).mono ?_
  rintro e w11 ⟨c6, rfl, i6, hb11⟩
  go_wp2_with fail
  first | (with_reducible refine (Add_zeck c5 c6 m n hm hn HSUM.out _ (i5.keep hb11) i6).mono ?_) | refine (Add_zeck c5 c6 m n hm hn HSUM.out _ (i5.keep hb11) i6).mono ?_
  rintro e w12 ⟨s6, rfl, i7, hb12⟩
  go_wp2_with fail
  first | (with_reducible refine (Value_sum s6 m n HSUM.out _ i7).mono ?_) | refine (Value_sum s6 m n HSUM.out _ i7).mono ?_
  rintro e _ ⟨rfl, rfl⟩
  go_wp2_with fail
  first | (with_reducible refine (awake_any _).mono ?_) | refine (awake_any _).mono ?_
  rintro e w13 ⟨rfl, hb13⟩
  go_wp2
  go_ret
  exact ⟨rfl, (bt (bt (bt (bt (bt (bt (bt (bt (bt (bt (bt (bt hb1 hb2) hb3) hb4) hb5) hb6) hb7) hb8) hb9) hb10) hb11) hb12) hb13)⟩

set_option maxHeartbeats 8000000 in
theorem back_L_yes_false (w : World) (m n : Nat) (hm : m ≤ 1000000000000) (hn : n ≤ 1000000000000) (hsum : m + n ≤ 1000000000000) (hc : ¬ m < n) (v : Value) (l : List Nat) (hv : Ints w v (ix l)) (hl : Falls 60 l) (hs : vsum F l ≤ 1000000000000)  :
    Calls Try.prog 14 #[.int .i64 m, .int .i64 n, v] w fun e w' => e = .returned (.bool true) ∧ Below w.heap.size w w' := by
  have hd1 : decide ((m : Int) + n ≤ 1000000000000) = true := decide_eq_true (by omega)
  have hd : decide (m < n) = false := decide_eq_false (by omega)
  have HSUM := Lib.hid hsum
  have HC := Lib.hid hc
  clear hc
  have HV := Lib.hid hv; clear hv
  have HL := Lib.hid hl; clear hl
  have HS := Lib.hid hs; clear hs
  go_enter Try.func14, Try.ntmps14
  go_wp2_with fail
  first | (with_reducible refine (Encode_yes m hm _).mono ?_) | refine (Encode_yes m hm _).mono ?_
  rintro e w1 ⟨a, rfl, ha, hb1⟩
  go_wp2_with fail
  first | (with_reducible refine (Encode_yes n hn _).mono ?_) | refine (Encode_yes n hn _).mono ?_
  rintro e w2 ⟨b, rfl, hb, hb2⟩
  go_wp2_with fail
  first | (with_reducible refine (list_num v l HL.out _ (HV.out.keep (bt hb1 hb2))).mono ?_) | refine (list_num v l HL.out _ (HV.out.keep (bt hb1 hb2))).mono ?_
  rintro e w3 ⟨x1, rfl, g1, hb3⟩
  go_wp2_with fail
  first | (with_reducible refine (Value_yes x1 l HL.out HS.out _ g1).mono ?_) | refine (Value_yes x1 l HL.out HS.out _ g1).mono ?_
  rintro e _ ⟨rfl, rfl⟩
  go_wp2_with fail
  first | (with_reducible refine (Encode_sum l HL.out HS.out _).mono ?_) | refine (Encode_sum l HL.out HS.out _).mono ?_
  rintro e w4 ⟨x2, rfl, g2, hb4⟩
  go_wp2_with fail
  first | (with_reducible refine (equal_yes x2 v (ix l) _ g2 (HV.out.keep (bt (bt (bt hb1 hb2) hb3) hb4))).mono ?_) | refine (equal_yes x2 v (ix l) _ g2 (HV.out.keep (bt (bt (bt hb1 hb2) hb3) hb4))).mono ?_
  rintro e w5 ⟨rfl, hb5⟩
  go_wp2_with fail
  first | (with_reducible refine (clone_z a m hm _ (ha.keep (bt (bt (bt hb2 hb3) hb4) hb5))).mono ?_) | refine (clone_z a m hm _ (ha.keep (bt (bt (bt hb2 hb3) hb4) hb5))).mono ?_
  rintro e w6 ⟨c1, rfl, i1, hb6⟩
  go_wp2_with fail
  first | (with_reducible refine (Value_zeck c1 m hm _ i1).mono ?_) | refine (Value_zeck c1 m hm _ i1).mono ?_
  rintro e _ ⟨rfl, rfl⟩
  go_wp2_with fail
  first | (with_reducible refine (clone_z b n hn _ (hb.keep (bt (bt (bt hb3 hb4) hb5) hb6))).mono ?_) | refine (clone_z b n hn _ (hb.keep (bt (bt (bt hb3 hb4) hb5) hb6))).mono ?_
  rintro e w7 ⟨c2, rfl, i2, hb7⟩
  go_wp2_with fail
  first | (with_reducible refine (Value_zeck c2 n hn _ i2).mono ?_) | refine (Value_zeck c2 n hn _ i2).mono ?_
  rintro e _ ⟨rfl, rfl⟩
  go_wp2_with fail
  first | (with_reducible refine (clone_z a m hm _ (ha.keep (bt (bt (bt (bt (bt hb2 hb3) hb4) hb5) hb6) hb7))).mono ?_) | refine (clone_z a m hm _ (ha.keep (bt (bt (bt (bt (bt hb2 hb3) hb4) hb5) hb6) hb7))).mono ?_
  rintro e w8 ⟨c3, rfl, i3, hb8⟩
  go_wp2_with fail
  first | (with_reducible refine (clone_z b n hn _ (hb.keep (bt (bt (bt (bt (bt hb3 hb4) hb5) hb6) hb7) hb8))).mono ?_) | refine (clone_z b n hn _ (hb.keep (bt (bt (bt (bt (bt hb3 hb4) hb5) hb6) hb7) hb8))).mono ?_
  rintro e w9 ⟨c4, rfl, i4, hb9⟩
  go_wp2_with fail
  first | (with_reducible refine (Less_zfalse c3 c4 m n hm hn HC.out _ (i3.keep hb9) i4).mono ?_) | refine (Less_zfalse c3 c4 m n hm hn HC.out _ (i3.keep hb9) i4).mono ?_
  rintro e _ ⟨rfl, rfl⟩
  go_wp2_with fail
  refine (compare_zge a b m n hm hn HC.out _ (ha.keep (bt (bt (bt (bt (bt (bt (bt hb2 hb3) hb4) hb5) hb6) hb7) hb8) hb9)) (hb.keep (bt (bt (bt (bt (bt (bt hb3 hb4) hb5) hb6) hb7) hb8) hb9))).mono ?_
  rintro e _ ⟨⟨c, rfl, hc⟩, rfl⟩
  have hc0 : decide (c < 0) = false := decide_eq_false (by omega)
  clear hc
  go_wp2_with fail
  first | (with_reducible refine (clone_z a m hm _ (ha.keep (bt (bt (bt (bt (bt (bt (bt hb2 hb3) hb4) hb5) hb6) hb7) hb8) hb9))).mono ?_) | refine (clone_z a m hm _ (ha.keep (bt (bt (bt (bt (bt (bt (bt hb2 hb3) hb4) hb5) hb6) hb7) hb8) hb9))).mono ?_
  rintro e w10 ⟨c5, rfl, i5, hb10⟩
  go_wp2_with fail
  first | (with_reducible refine (clone_z b n hn _ (hb.keep (bt (bt (bt (bt (bt (bt (bt hb3 hb4) hb5) hb6) hb7) hb8) hb9) hb10))).mono ?_) | refine (clone_z b n hn _ (hb.keep (bt (bt (bt (bt (bt (bt (bt hb3 hb4) hb5) hb6) hb7) hb8) hb9) hb10))).mono ?_
  rintro e w11 ⟨c6, rfl, i6, hb11⟩
  go_wp2_with fail
  first | (with_reducible refine (Add_zeck c5 c6 m n hm hn HSUM.out _ (i5.keep hb11) i6).mono ?_) | refine (Add_zeck c5 c6 m n hm hn HSUM.out _ (i5.keep hb11) i6).mono ?_
  rintro e w12 ⟨s6, rfl, i7, hb12⟩
  go_wp2_with fail
  first | (with_reducible refine (Value_sum s6 m n HSUM.out _ i7).mono ?_) | refine (Value_sum s6 m n HSUM.out _ i7).mono ?_
  rintro e _ ⟨rfl, rfl⟩
  go_wp2_with fail
  first | (with_reducible refine (awake_any _).mono ?_) | refine (awake_any _).mono ?_
  rintro e w13 ⟨rfl, hb13⟩
  go_wp2
  go_ret
  exact ⟨rfl, (bt (bt (bt (bt (bt (bt (bt (bt (bt (bt (bt (bt hb1 hb2) hb3) hb4) hb5) hb6) hb7) hb8) hb9) hb10) hb11) hb12) hb13)⟩

set_option maxHeartbeats 8000000 in
theorem back_L_big_true (w : World) (m n : Nat) (hm : m ≤ 1000000000000) (hn : n ≤ 1000000000000) (hsum : 1000000000000 < m + n) (hc : m < n) (v : Value) (l : List Nat) (hv : Ints w v (ix l)) (hl : Falls 60 l) (hs : vsum F l ≤ 1000000000000)  :
    Calls Try.prog 14 #[.int .i64 m, .int .i64 n, v] w fun e w' => e = .returned (.bool true) ∧ Below w.heap.size w w' := by
  have hd1 : decide ((m : Int) + n ≤ 1000000000000) = false := decide_eq_false (by omega)
  have hd : decide (m < n) = true := decide_eq_true (by omega)
  have HSUM := Lib.hid hsum
  have HC := Lib.hid hc
  clear hc
  have HV := Lib.hid hv; clear hv
  have HL := Lib.hid hl; clear hl
  have HS := Lib.hid hs; clear hs
  go_enter Try.func14, Try.ntmps14
  go_wp2_with fail
  first | (with_reducible refine (Encode_yes m hm _).mono ?_) | refine (Encode_yes m hm _).mono ?_
  rintro e w1 ⟨a, rfl, ha, hb1⟩
  go_wp2_with fail
  first | (with_reducible refine (Encode_yes n hn _).mono ?_) | refine (Encode_yes n hn _).mono ?_
  rintro e w2 ⟨b, rfl, hb, hb2⟩
  go_wp2_with fail
  first | (with_reducible refine (list_num v l HL.out _ (HV.out.keep (bt hb1 hb2))).mono ?_) | refine (list_num v l HL.out _ (HV.out.keep (bt hb1 hb2))).mono ?_
  rintro e w3 ⟨x1, rfl, g1, hb3⟩
  go_wp2_with fail
  first | (with_reducible refine (Value_yes x1 l HL.out HS.out _ g1).mono ?_) | refine (Value_yes x1 l HL.out HS.out _ g1).mono ?_
  rintro e _ ⟨rfl, rfl⟩
  go_wp2_with fail
  first | (with_reducible refine (Encode_sum l HL.out HS.out _).mono ?_) | refine (Encode_sum l HL.out HS.out _).mono ?_
  rintro e w4 ⟨x2, rfl, g2, hb4⟩
  go_wp2_with fail
  first | (with_reducible refine (equal_yes x2 v (ix l) _ g2 (HV.out.keep (bt (bt (bt hb1 hb2) hb3) hb4))).mono ?_) | refine (equal_yes x2 v (ix l) _ g2 (HV.out.keep (bt (bt (bt hb1 hb2) hb3) hb4))).mono ?_
  rintro e w5 ⟨rfl, hb5⟩
  go_wp2_with fail
  first | (with_reducible refine (clone_z a m hm _ (ha.keep (bt (bt (bt hb2 hb3) hb4) hb5))).mono ?_) | refine (clone_z a m hm _ (ha.keep (bt (bt (bt hb2 hb3) hb4) hb5))).mono ?_
  rintro e w6 ⟨c1, rfl, i1, hb6⟩
  go_wp2_with fail
  first | (with_reducible refine (Value_zeck c1 m hm _ i1).mono ?_) | refine (Value_zeck c1 m hm _ i1).mono ?_
  rintro e _ ⟨rfl, rfl⟩
  go_wp2_with fail
  first | (with_reducible refine (clone_z b n hn _ (hb.keep (bt (bt (bt hb3 hb4) hb5) hb6))).mono ?_) | refine (clone_z b n hn _ (hb.keep (bt (bt (bt hb3 hb4) hb5) hb6))).mono ?_
  rintro e w7 ⟨c2, rfl, i2, hb7⟩
  go_wp2_with fail
  first | (with_reducible refine (Value_zeck c2 n hn _ i2).mono ?_) | refine (Value_zeck c2 n hn _ i2).mono ?_
  rintro e _ ⟨rfl, rfl⟩
  go_wp2_with fail
  first | (with_reducible refine (clone_z a m hm _ (ha.keep (bt (bt (bt (bt (bt hb2 hb3) hb4) hb5) hb6) hb7))).mono ?_) | refine (clone_z a m hm _ (ha.keep (bt (bt (bt (bt (bt hb2 hb3) hb4) hb5) hb6) hb7))).mono ?_
  rintro e w8 ⟨c3, rfl, i3, hb8⟩
  go_wp2_with fail
  first | (with_reducible refine (clone_z b n hn _ (hb.keep (bt (bt (bt (bt (bt hb3 hb4) hb5) hb6) hb7) hb8))).mono ?_) | refine (clone_z b n hn _ (hb.keep (bt (bt (bt (bt (bt hb3 hb4) hb5) hb6) hb7) hb8))).mono ?_
  rintro e w9 ⟨c4, rfl, i4, hb9⟩
  go_wp2_with fail
  first | (with_reducible refine (Less_ztrue c3 c4 m n hm hn HC.out _ (i3.keep hb9) i4).mono ?_) | refine (Less_ztrue c3 c4 m n hm hn HC.out _ (i3.keep hb9) i4).mono ?_
  rintro e _ ⟨rfl, rfl⟩
  go_wp2_with fail
  first | (with_reducible refine (compare_zlt a b m n hm hn HC.out _ (ha.keep (bt (bt (bt (bt (bt (bt (bt hb2 hb3) hb4) hb5) hb6) hb7) hb8) hb9)) (hb.keep (bt (bt (bt (bt (bt (bt hb3 hb4) hb5) hb6) hb7) hb8) hb9))).mono ?_) | refine (compare_zlt a b m n hm hn HC.out _ (ha.keep (bt (bt (bt (bt (bt (bt (bt hb2 hb3) hb4) hb5) hb6) hb7) hb8) hb9)) (hb.keep (bt (bt (bt (bt (bt (bt hb3 hb4) hb5) hb6) hb7) hb8) hb9))).mono ?_
  rintro e _ ⟨rfl, rfl⟩
  go_wp2_with fail
  first | (with_reducible refine (clone_z a m hm _ (ha.keep (bt (bt (bt (bt (bt (bt (bt hb2 hb3) hb4) hb5) hb6) hb7) hb8) hb9))).mono ?_) | refine (clone_z a m hm _ (ha.keep (bt (bt (bt (bt (bt (bt (bt hb2 hb3) hb4) hb5) hb6) hb7) hb8) hb9))).mono ?_
  rintro e w10 ⟨c5, rfl, i5, hb10⟩
  go_wp2_with fail
  first | (with_reducible refine (clone_z b n hn _ (hb.keep (bt (bt (bt (bt (bt (bt (bt hb3 hb4) hb5) hb6) hb7) hb8) hb9) hb10))).mono ?_) | refine (clone_z b n hn _ (hb.keep (bt (bt (bt (bt (bt (bt (bt hb3 hb4) hb5) hb6) hb7) hb8) hb9) hb10))).mono ?_
  rintro e w11 ⟨c6, rfl, i6, hb11⟩
  go_wp2_with fail
  first | (with_reducible refine (Add_zbig c5 c6 m n hm hn HSUM.out _ (i5.keep hb11) i6).mono ?_) | refine (Add_zbig c5 c6 m n hm hn HSUM.out _ (i5.keep hb11) i6).mono ?_
  rintro e _ ⟨rfl, rfl⟩
  go_wp2_with fail
  first | (with_reducible refine (awake_any _).mono ?_) | refine (awake_any _).mono ?_
  rintro e w12 ⟨rfl, hb12⟩
  go_wp2
  go_ret
  exact ⟨rfl, (bt (bt (bt (bt (bt (bt (bt (bt (bt (bt (bt hb1 hb2) hb3) hb4) hb5) hb6) hb7) hb8) hb9) hb10) hb11) hb12)⟩

set_option maxHeartbeats 8000000 in
theorem back_L_big_false (w : World) (m n : Nat) (hm : m ≤ 1000000000000) (hn : n ≤ 1000000000000) (hsum : 1000000000000 < m + n) (hc : ¬ m < n) (v : Value) (l : List Nat) (hv : Ints w v (ix l)) (hl : Falls 60 l) (hs : vsum F l ≤ 1000000000000)  :
    Calls Try.prog 14 #[.int .i64 m, .int .i64 n, v] w fun e w' => e = .returned (.bool true) ∧ Below w.heap.size w w' := by
  have hd1 : decide ((m : Int) + n ≤ 1000000000000) = false := decide_eq_false (by omega)
  have hd : decide (m < n) = false := decide_eq_false (by omega)
  have HSUM := Lib.hid hsum
  have HC := Lib.hid hc
  clear hc
  have HV := Lib.hid hv; clear hv
  have HL := Lib.hid hl; clear hl
  have HS := Lib.hid hs; clear hs
  go_enter Try.func14, Try.ntmps14
  go_wp2_with fail
  first | (with_reducible refine (Encode_yes m hm _).mono ?_) | refine (Encode_yes m hm _).mono ?_
  rintro e w1 ⟨a, rfl, ha, hb1⟩
  go_wp2_with fail
  first | (with_reducible refine (Encode_yes n hn _).mono ?_) | refine (Encode_yes n hn _).mono ?_
  rintro e w2 ⟨b, rfl, hb, hb2⟩
  go_wp2_with fail
  first | (with_reducible refine (list_num v l HL.out _ (HV.out.keep (bt hb1 hb2))).mono ?_) | refine (list_num v l HL.out _ (HV.out.keep (bt hb1 hb2))).mono ?_
  rintro e w3 ⟨x1, rfl, g1, hb3⟩
  go_wp2_with fail
  first | (with_reducible refine (Value_yes x1 l HL.out HS.out _ g1).mono ?_) | refine (Value_yes x1 l HL.out HS.out _ g1).mono ?_
  rintro e _ ⟨rfl, rfl⟩
  go_wp2_with fail
  first | (with_reducible refine (Encode_sum l HL.out HS.out _).mono ?_) | refine (Encode_sum l HL.out HS.out _).mono ?_
  rintro e w4 ⟨x2, rfl, g2, hb4⟩
  go_wp2_with fail
  first | (with_reducible refine (equal_yes x2 v (ix l) _ g2 (HV.out.keep (bt (bt (bt hb1 hb2) hb3) hb4))).mono ?_) | refine (equal_yes x2 v (ix l) _ g2 (HV.out.keep (bt (bt (bt hb1 hb2) hb3) hb4))).mono ?_
  rintro e w5 ⟨rfl, hb5⟩
  go_wp2_with fail
  first | (with_reducible refine (clone_z a m hm _ (ha.keep (bt (bt (bt hb2 hb3) hb4) hb5))).mono ?_) | refine (clone_z a m hm _ (ha.keep (bt (bt (bt hb2 hb3) hb4) hb5))).mono ?_
  rintro e w6 ⟨c1, rfl, i1, hb6⟩
  go_wp2_with fail
  first | (with_reducible refine (Value_zeck c1 m hm _ i1).mono ?_) | refine (Value_zeck c1 m hm _ i1).mono ?_
  rintro e _ ⟨rfl, rfl⟩
  go_wp2_with fail
  first | (with_reducible refine (clone_z b n hn _ (hb.keep (bt (bt (bt hb3 hb4) hb5) hb6))).mono ?_) | refine (clone_z b n hn _ (hb.keep (bt (bt (bt hb3 hb4) hb5) hb6))).mono ?_
  rintro e w7 ⟨c2, rfl, i2, hb7⟩
  go_wp2_with fail
  first | (with_reducible refine (Value_zeck c2 n hn _ i2).mono ?_) | refine (Value_zeck c2 n hn _ i2).mono ?_
  rintro e _ ⟨rfl, rfl⟩
  go_wp2_with fail
  first | (with_reducible refine (clone_z a m hm _ (ha.keep (bt (bt (bt (bt (bt hb2 hb3) hb4) hb5) hb6) hb7))).mono ?_) | refine (clone_z a m hm _ (ha.keep (bt (bt (bt (bt (bt hb2 hb3) hb4) hb5) hb6) hb7))).mono ?_
  rintro e w8 ⟨c3, rfl, i3, hb8⟩
  go_wp2_with fail
  first | (with_reducible refine (clone_z b n hn _ (hb.keep (bt (bt (bt (bt (bt hb3 hb4) hb5) hb6) hb7) hb8))).mono ?_) | refine (clone_z b n hn _ (hb.keep (bt (bt (bt (bt (bt hb3 hb4) hb5) hb6) hb7) hb8))).mono ?_
  rintro e w9 ⟨c4, rfl, i4, hb9⟩
  go_wp2_with fail
  first | (with_reducible refine (Less_zfalse c3 c4 m n hm hn HC.out _ (i3.keep hb9) i4).mono ?_) | refine (Less_zfalse c3 c4 m n hm hn HC.out _ (i3.keep hb9) i4).mono ?_
  rintro e _ ⟨rfl, rfl⟩
  go_wp2_with fail
  refine (compare_zge a b m n hm hn HC.out _ (ha.keep (bt (bt (bt (bt (bt (bt (bt hb2 hb3) hb4) hb5) hb6) hb7) hb8) hb9)) (hb.keep (bt (bt (bt (bt (bt (bt hb3 hb4) hb5) hb6) hb7) hb8) hb9))).mono ?_
  rintro e _ ⟨⟨c, rfl, hc⟩, rfl⟩
  have hc0 : decide (c < 0) = false := decide_eq_false (by omega)
  clear hc
  go_wp2_with fail
  first | (with_reducible refine (clone_z a m hm _ (ha.keep (bt (bt (bt (bt (bt (bt (bt hb2 hb3) hb4) hb5) hb6) hb7) hb8) hb9))).mono ?_) | refine (clone_z a m hm _ (ha.keep (bt (bt (bt (bt (bt (bt (bt hb2 hb3) hb4) hb5) hb6) hb7) hb8) hb9))).mono ?_
  rintro e w10 ⟨c5, rfl, i5, hb10⟩
  go_wp2_with fail
  first | (with_reducible refine (clone_z b n hn _ (hb.keep (bt (bt (bt (bt (bt (bt (bt hb3 hb4) hb5) hb6) hb7) hb8) hb9) hb10))).mono ?_) | refine (clone_z b n hn _ (hb.keep (bt (bt (bt (bt (bt (bt (bt hb3 hb4) hb5) hb6) hb7) hb8) hb9) hb10))).mono ?_
  rintro e w11 ⟨c6, rfl, i6, hb11⟩
  go_wp2_with fail
  first | (with_reducible refine (Add_zbig c5 c6 m n hm hn HSUM.out _ (i5.keep hb11) i6).mono ?_) | refine (Add_zbig c5 c6 m n hm hn HSUM.out _ (i5.keep hb11) i6).mono ?_
  rintro e _ ⟨rfl, rfl⟩
  go_wp2_with fail
  first | (with_reducible refine (awake_any _).mono ?_) | refine (awake_any _).mono ?_
  rintro e w12 ⟨rfl, hb12⟩
  go_wp2
  go_ret
  exact ⟨rfl, (bt (bt (bt (bt (bt (bt (bt (bt (bt (bt (bt hb1 hb2) hb3) hb4) hb5) hb6) hb7) hb8) hb9) hb10) hb11) hb12)⟩

theorem back_main (w : World) (m n : Int) (v : Value) (xs : List Int) (hv : Ints w v xs) (hbd : ∀ n ∈ xs, -9223372036854775808 ≤ n ∧ n ≤ 9223372036854775807) :
    Calls Try.prog 14 #[.int .i64 m, .int .i64 n, v] w fun e w' => e = .returned (.bool true) ∧ Below w.heap.size w w' := by
  by_cases hx : IsNum (xs.take 40) ∧ ∀ l, xs.take 40 = ix l → vsum F l ≤ 1000000000000
  · obtain ⟨⟨l, e, hl⟩, hs⟩ := hx
    have hx : IsNum xs := by
      by_cases h : IsNum xs
      · exact h
      · exact absurd ⟨l, e, hl⟩ (take_isNum h)
    obtain ⟨l', rfl, hl'⟩ := hx
    rw [take_num hl'] at hs
    have hs := hs l' rfl
    by_cases h0 : 0 ≤ m ∧ m ≤ 1000000000000
    · obtain ⟨m, rfl⟩ := Int.eq_ofNat_of_zero_le h0.1
      by_cases h1 : 0 ≤ n ∧ n ≤ 1000000000000
      · obtain ⟨n, rfl⟩ := Int.eq_ofNat_of_zero_le h1.1
        by_cases hc : m < n
        · by_cases hsum : m + n ≤ 1000000000000
          · exact back_L_yes_true w m n (by omega) (by omega) hsum hc v l' hv hl' hs
          · exact back_L_big_true w m n (by omega) (by omega) (by omega) hc v l' hv hl' hs
        · by_cases hsum : m + n ≤ 1000000000000
          · exact back_L_yes_false w m n (by omega) (by omega) hsum hc v l' hv hl' hs
          · exact back_L_big_false w m n (by omega) (by omega) (by omega) hc v l' hv hl' hs
      · exact back_L_n3 w m n (by omega) (by omega) v l' hv hl' hs
    · by_cases h1 : 0 ≤ n ∧ n ≤ 1000000000000
      · obtain ⟨n, rfl⟩ := Int.eq_ofNat_of_zero_le h1.1
        exact back_L_n2 w m n (by omega) (by omega) v l' hv hl' hs
      · exact back_L_n1 w m n (by omega) (by omega) v l' hv hl' hs
  · by_cases h0 : 0 ≤ m ∧ m ≤ 1000000000000
    · obtain ⟨m, rfl⟩ := Int.eq_ofNat_of_zero_le h0.1
      by_cases h1 : 0 ≤ n ∧ n ≤ 1000000000000
      · obtain ⟨n, rfl⟩ := Int.eq_ofNat_of_zero_le h1.1
        by_cases hc : m < n
        · by_cases hsum : m + n ≤ 1000000000000
          · exact back_X_yes_true w m n (by omega) (by omega) hsum hc v xs hv hbd hx
          · exact back_X_big_true w m n (by omega) (by omega) (by omega) hc v xs hv hbd hx
        · by_cases hsum : m + n ≤ 1000000000000
          · exact back_X_yes_false w m n (by omega) (by omega) hsum hc v xs hv hbd hx
          · exact back_X_big_false w m n (by omega) (by omega) (by omega) hc v xs hv hbd hx
      · exact back_X_n3 w m n (by omega) (by omega) v xs hv hbd hx
    · by_cases h1 : 0 ≤ n ∧ n ≤ 1000000000000
      · obtain ⟨n, rfl⟩ := Int.eq_ofNat_of_zero_le h1.1
        exact back_X_n2 w m n (by omega) (by omega) v xs hv hbd hx
      · exact back_X_n1 w m n (by omega) (by omega) v xs hv hbd hx
theorem numeralBack_walk (w : World) (a : Int) (_ha : -9223372036854775808 ≤ a ∧ a ≤ 9223372036854775807) (b : Int) (_hb : -9223372036854775808 ≤ b ∧ b ≤ 9223372036854775807) (v : Value) (xs : List Int) (hv : Ints w v xs) (hbd : ∀ n ∈ xs, -9223372036854775808 ≤ n ∧ n ≤ 9223372036854775807) :
    Calls Try.prog 14 #[.int .i64 a, .int .i64 b, v] w fun e w' => e = .returned (.bool true) ∧ Below w.heap.size w w' := back_main w a b v xs hv hbd
end Go.Proofs.Ytiknocjdogbajaa
