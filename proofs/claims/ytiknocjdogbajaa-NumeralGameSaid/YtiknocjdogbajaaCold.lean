/- The walk of NumeralCold. -/
import Derived.Test.YtiknocjdogbajaaRm
namespace Go.Proofs.Ytiknocjdogbajaa
open Go.RowKit

/-- Move of the program and of the reference return the same. -/
theorem move_both (a b : Nat) (ha : a ≤ 1000000) (hb : b ≤ 1000000) : ∃ x y f : Int,
    (∀ w, Calls Try.prog 32 #[.int .i64 a, .int .i64 b] w fun e w' => e = .returned (.tuple #[.agg #[.int .i64 x, .int .i64 y], .int .i64 f]) ∧ Below w.heap.size w w') ∧
    (∀ w, Calls Try.prog 35 #[.int .i64 a, .int .i64 b] w fun e w' => e = .returned (.tuple #[.agg #[.int .i64 x, .int .i64 y], .int .i64 f]) ∧ Below w.heap.size w w') := by
  by_cases hc : Cold a b
  · exact ⟨0, 0, 4, fun w => Move_cold a b ha hb hc w, fun w => rMove_cold a b ha hb hc w⟩
  · obtain ⟨n, ho⟩ := bst_opt a b ha hb hc
    have hn1 := ho.pos
    have hn : n ≤ 3000000 := by
      obtain ⟨k, hk, e, g⟩ := ho.good
      have s := mvs_sum a b n k hk
      rw [e] at s
      have := g.1
      have := g.2.1
      simp only at *
      omega
    obtain ⟨hF, hT⟩ := opt_first a b n _ _ ho
    refine ⟨_, _, 0, fun w => ?_, fun w => rMove_walk a b ha hb hc n hn _ _ hn1 hF hT w⟩
    rcases Nat.lt_or_ge b a with hab | hab
    · refine (Move_gt a b ha hb hc hab w).mono ?_
      rintro e w' ⟨h, hb'⟩
      refine ⟨h _ ?_, hb'⟩
      unfold diag
      rw [if_neg (by omega)]
    · refine (Move_le a b ha hb hc hab w).mono ?_
      rintro e w' ⟨h, hb'⟩
      refine ⟨h _ ?_, hb'⟩
      unfold diag
      rw [if_pos hab]


set_option maxHeartbeats 4000000 in
theorem numeralCold_yy (a b : Nat) (ha : a ≤ 1000000) (hb : b ≤ 1000000) (n : Nat) (hn : n ≤ 100000) (w : World) :
    Calls Try.prog 10 #[.int .i64 a, .int .i64 b, .int .i64 n] w fun e w' => e = .returned (.bool true) ∧ Below w.heap.size w w' := by
  obtain ⟨x, y, f, hM, hR⟩ := move_both a b ha hb
  obtain ⟨r, hr⟩ : ∃ r : Bool, r = true ↔ Cold a b := by
    by_cases h : Cold a b
    · exact ⟨true, by simp [h]⟩
    · exact ⟨false, by simp [h]⟩
  have HM := Lib.hid hM; clear hM
  have HR := Lib.hid hR; clear hR
  have HC := Lib.hid (fun V => Cold_ok a b ha hb r hr V)
  have HRC := Lib.hid (fun V => rCold_any a b ha hb r hr V)
  clear hr
  have HP := Lib.hid (fun V => Pair_ok n hn V)
  have HRP := Lib.hid (fun V => rPair_any n (by omega) V)
  have hd : decide (100000 < n) = false := decide_eq_false (by omega)
  have hq0 : (0 : Int) ≤ pa n := by omega
  have hq1 : (pa n : Int) + n ≤ 1000000 := by have := (pa_le n (by omega)).2; omega
  generalize (pa n : Int) = p at *
  go_enter Try.func10, Try.ntmps10
  go_wp2_with fail
  refine (HC.out _).mono ?_
  rintro e w1 ⟨rfl, hb1⟩
  go_wp2_with fail
  refine (HM.out _).mono ?_
  rintro e w2 ⟨rfl, hb2⟩
  have t2 := hb1.trans (hb2.mono hb1.size)
  clear hb1 hb2
  go_wp2_with fail
  refine (HP.out _).mono ?_
  rintro e w3 ⟨rfl, hb3⟩
  have X9 := (Box.new w2 43 x y).keep hb3
  have t3 := t2.trans ((below_new hb3).mono t2.size)
  clear hb3 t2
  have heq := eq43
  go_wp2_with fail
  have X11 := Box.new w3 43 p (p + n)
  have Y9 := X9.alloc (.cells #[.int .i64 p, .int .i64 (p + n)] 43)
  have t4 := t3.alloc t3.size (.cells #[.int .i64 p, .int .i64 (p + n)] 43)
  generalize w3.alloc (.cells #[.int .i64 p, .int .i64 (p + n)] 43) = W at *
  have hs3 := t3.size
  clear t3 X9
  have k0 := X11.c0
  have k1 := X11.c1
  have kl := X11.lt
  clear X11
  go_region_held3 (fun w' => w'.cell? ⟨w3.heap.size, 0, none⟩ = some (.int .i64 p) ∧ w'.cell? ⟨w3.heap.size, 1, none⟩ = some (.int .i64 (p + n)) ∧ Box w' w2.heap.size 43 x y ∧ w3.heap.size < w'.heap.size ∧ Below w.heap.size w w')
    (first
      | exact ⟨k0, k1, Y9.drew, kl, t4.drew⟩
      | go_keep
      | (go_split_ands; exact ⟨(hb1.cell (p := ⟨w3.heap.size, 0, none⟩) (by assumption)).trans (by assumption), (hb1.cell (p := ⟨w3.heap.size, 1, none⟩) (by assumption)).trans (by assumption), Box.keep (by assumption) hb1, Nat.lt_of_lt_of_le (by assumption) hb1.size, Below.trans (by assumption) (hb1.mono (Below.size (by assumption)))⟩))
    (first
      | (go_at_call 33; (with_reducible refine (HRP.out _).mono ?_); rintro e w4 ⟨rfl, hb1⟩))
  have hH : w4.cell? ⟨w3.heap.size, 0, none⟩ = some (.int .i64 p) ∧ w4.cell? ⟨w3.heap.size, 1, none⟩ = some (.int .i64 (p + n)) ∧ Box w4 w2.heap.size 43 x y ∧ w3.heap.size < w4.heap.size ∧ Below w.heap.size w w4 := by assumption
  obtain ⟨_, _, Z9, _, t5⟩ := hH
  clear k0 k1 kl Y9 t4 hs3 hb1
  go_wp2_with fail
  (with_reducible refine (heaps_yes a b (by omega) (by omega) (by omega) (by omega) _).mono ?_)
  rintro e _ ⟨rfl, rfl⟩
  go_wp2_with fail
  (with_reducible refine (HR.out _).mono ?_)
  rintro e w6 ⟨rfl, hb6⟩
  have V9 := Z9.keep hb6
  have t6 := t5.trans (hb6.mono t5.size)
  clear hb6 Z9 t5
  go_wp2_with fail
  (with_reducible refine (HRC.out _).mono ?_)
  rintro e w7 ⟨rfl, hb7⟩
  have U9 := (V9.alloc (.cells #[.int .i64 x, .int .i64 y] 43)).keep hb7
  have U13 := (Box.new w6 43 x y).keep hb7
  have t7 := t6.trans ((below_new hb7).mono t6.size)
  clear V9 t6 hb7
  have c90 := U9.c0
  have c91 := U9.c1
  have c130 := U13.c0
  have c131 := U13.c1
  have hl9 := U9.lt
  have hl13 := U13.lt
  go_wp2_with fail
  (with_reducible refine (awake_any _).mono ?_)
  rintro e w8 ⟨rfl, hb8⟩
  go_wp2_with fail
  go_ret
  exact ⟨rfl, t7.trans (hb8.mono t7.size)⟩

set_option maxHeartbeats 4000000 in
theorem numeralCold_ym (a b : Nat) (ha : a ≤ 1000000) (hb : b ≤ 1000000) (n : Int) (hn : n < 0) (w : World) :
    Calls Try.prog 10 #[.int .i64 a, .int .i64 b, .int .i64 n] w fun e w' => e = .returned (.bool true) ∧ Below w.heap.size w w' := by
  obtain ⟨x, y, f, hM, hR⟩ := move_both a b ha hb
  obtain ⟨r, hr⟩ : ∃ r : Bool, r = true ↔ Cold a b := by
    by_cases h : Cold a b
    · exact ⟨true, by simp [h]⟩
    · exact ⟨false, by simp [h]⟩
  have HM := Lib.hid hM; clear hM
  have HR := Lib.hid hR; clear hR
  have HC := Lib.hid (fun V => Cold_ok a b ha hb r hr V)
  have HRC := Lib.hid (fun V => rCold_any a b ha hb r hr V)
  clear hr
  have HP := Lib.hid (fun V => Pair_no n (.inl hn) V)
  have hd : decide (n < 0) = true := decide_eq_true hn
  go_enter Try.func10, Try.ntmps10
  go_wp2_with fail
  refine (HC.out _).mono ?_
  rintro e w1 ⟨rfl, hb1⟩
  go_wp2_with fail
  refine (HM.out _).mono ?_
  rintro e w2 ⟨rfl, hb2⟩
  have t2 := hb1.trans (hb2.mono hb1.size)
  clear hb1 hb2
  go_wp2_with fail
  refine (HP.out _).mono ?_
  rintro e w3 ⟨rfl, hb3⟩
  have X9 := (Box.new w2 43 x y).keep hb3
  have t3 := t2.trans ((below_new hb3).mono t2.size)
  clear hb3 t2
  have heq := eq43
  have Z9 := X9.alloc (.cells #[.int .i64 0, .int .i64 0] 43)
  have t5 := t3.alloc t3.size (.cells #[.int .i64 0, .int .i64 0] 43)
  clear t3 X9
  go_wp2_with fail
  (with_reducible refine (heaps_yes a b (by omega) (by omega) (by omega) (by omega) _).mono ?_)
  rintro e _ ⟨rfl, rfl⟩
  go_wp2_with fail
  (with_reducible refine (HR.out _).mono ?_)
  rintro e w6 ⟨rfl, hb6⟩
  have V9 := Z9.keep hb6
  have t6 := t5.trans (hb6.mono t5.size)
  clear hb6 Z9 t5
  go_wp2_with fail
  (with_reducible refine (HRC.out _).mono ?_)
  rintro e w7 ⟨rfl, hb7⟩
  have U9 := (V9.alloc (.cells #[.int .i64 x, .int .i64 y] 43)).keep hb7
  have U13 := (Box.new w6 43 x y).keep hb7
  have t7 := t6.trans ((below_new hb7).mono t6.size)
  clear V9 t6 hb7
  have c90 := U9.c0
  have c91 := U9.c1
  have c130 := U13.c0
  have c131 := U13.c1
  have hl9 := U9.lt
  have hl13 := U13.lt
  go_wp2_with fail
  (with_reducible refine (awake_any _).mono ?_)
  rintro e w8 ⟨rfl, hb8⟩
  go_wp2_with fail
  go_ret
  exact ⟨rfl, t7.trans (hb8.mono t7.size)⟩

set_option maxHeartbeats 4000000 in
theorem numeralCold_yb (a b : Nat) (ha : a ≤ 1000000) (hb : b ≤ 1000000) (n : Int) (hn : 100000 < n) (w : World) :
    Calls Try.prog 10 #[.int .i64 a, .int .i64 b, .int .i64 n] w fun e w' => e = .returned (.bool true) ∧ Below w.heap.size w w' := by
  obtain ⟨x, y, f, hM, hR⟩ := move_both a b ha hb
  obtain ⟨r, hr⟩ : ∃ r : Bool, r = true ↔ Cold a b := by
    by_cases h : Cold a b
    · exact ⟨true, by simp [h]⟩
    · exact ⟨false, by simp [h]⟩
  have HM := Lib.hid hM; clear hM
  have HR := Lib.hid hR; clear hR
  have HC := Lib.hid (fun V => Cold_ok a b ha hb r hr V)
  have HRC := Lib.hid (fun V => rCold_any a b ha hb r hr V)
  clear hr
  have HP := Lib.hid (fun V => Pair_no n (.inr hn) V)
  have hd : decide (n < 0) = false := decide_eq_false (by omega)
  have hd' : decide (100000 < n) = true := decide_eq_true hn
  go_enter Try.func10, Try.ntmps10
  go_wp2_with fail
  refine (HC.out _).mono ?_
  rintro e w1 ⟨rfl, hb1⟩
  go_wp2_with fail
  refine (HM.out _).mono ?_
  rintro e w2 ⟨rfl, hb2⟩
  have t2 := hb1.trans (hb2.mono hb1.size)
  clear hb1 hb2
  go_wp2_with fail
  refine (HP.out _).mono ?_
  rintro e w3 ⟨rfl, hb3⟩
  have X9 := (Box.new w2 43 x y).keep hb3
  have t3 := t2.trans ((below_new hb3).mono t2.size)
  clear hb3 t2
  have heq := eq43
  have Z9 := X9.alloc (.cells #[.int .i64 0, .int .i64 0] 43)
  have t5 := t3.alloc t3.size (.cells #[.int .i64 0, .int .i64 0] 43)
  clear t3 X9
  go_wp2_with fail
  (with_reducible refine (heaps_yes a b (by omega) (by omega) (by omega) (by omega) _).mono ?_)
  rintro e _ ⟨rfl, rfl⟩
  go_wp2_with fail
  (with_reducible refine (HR.out _).mono ?_)
  rintro e w6 ⟨rfl, hb6⟩
  have V9 := Z9.keep hb6
  have t6 := t5.trans (hb6.mono t5.size)
  clear hb6 Z9 t5
  go_wp2_with fail
  (with_reducible refine (HRC.out _).mono ?_)
  rintro e w7 ⟨rfl, hb7⟩
  have U9 := (V9.alloc (.cells #[.int .i64 x, .int .i64 y] 43)).keep hb7
  have U13 := (Box.new w6 43 x y).keep hb7
  have t7 := t6.trans ((below_new hb7).mono t6.size)
  clear V9 t6 hb7
  have c90 := U9.c0
  have c91 := U9.c1
  have c130 := U13.c0
  have c131 := U13.c1
  have hl9 := U9.lt
  have hl13 := U13.lt
  go_wp2_with fail
  (with_reducible refine (awake_any _).mono ?_)
  rintro e w8 ⟨rfl, hb8⟩
  go_wp2_with fail
  go_ret
  exact ⟨rfl, t7.trans (hb8.mono t7.size)⟩

set_option maxHeartbeats 4000000 in
theorem numeralCold_ny (a b : Int) (hab : a < 0 ∨ b < 0 ∨ 1000000 < a ∨ 1000000 < b) (n : Nat) (hn : n ≤ 100000) (w : World) :
    Calls Try.prog 10 #[.int .i64 a, .int .i64 b, .int .i64 n] w fun e w' => e = .returned (.bool true) ∧ Below w.heap.size w w' := by
  have HM := Lib.hid (fun V => Move_bad a b hab V)
  have HC := Lib.hid (fun V => Cold_no a b hab V)
  have HHN := Lib.hid (fun V => heaps_no a b hab V)
  clear hab
  have HP := Lib.hid (fun V => Pair_ok n hn V)
  have HRP := Lib.hid (fun V => rPair_any n (by omega) V)
  have hd : decide (100000 < n) = false := decide_eq_false (by omega)
  have hq0 : (0 : Int) ≤ pa n := by omega
  have hq1 : (pa n : Int) + n ≤ 1000000 := by have := (pa_le n (by omega)).2; omega
  generalize (pa n : Int) = p at *
  go_enter Try.func10, Try.ntmps10
  go_wp2_with fail
  refine (HC.out _).mono ?_
  rintro e w1 ⟨rfl, hb1⟩
  go_wp2_with fail
  refine (HM.out _).mono ?_
  rintro e w2 ⟨rfl, hb2⟩
  have t2 := hb1.trans (hb2.mono hb1.size)
  clear hb1 hb2
  go_wp2_with fail
  refine (HP.out _).mono ?_
  rintro e w3 ⟨rfl, hb3⟩
  have X9 := (Box.new w2 43 0 0).keep hb3
  have t3 := t2.trans ((below_new hb3).mono t2.size)
  clear hb3 t2
  have heq := eq43
  go_wp2_with fail
  have X11 := Box.new w3 43 p (p + n)
  have Y9 := X9.alloc (.cells #[.int .i64 p, .int .i64 (p + n)] 43)
  have t4 := t3.alloc t3.size (.cells #[.int .i64 p, .int .i64 (p + n)] 43)
  generalize w3.alloc (.cells #[.int .i64 p, .int .i64 (p + n)] 43) = W at *
  have hs3 := t3.size
  clear t3 X9
  have k0 := X11.c0
  have k1 := X11.c1
  have kl := X11.lt
  clear X11
  go_region_held3 (fun w' => w'.cell? ⟨w3.heap.size, 0, none⟩ = some (.int .i64 p) ∧ w'.cell? ⟨w3.heap.size, 1, none⟩ = some (.int .i64 (p + n)) ∧ Box w' w2.heap.size 43 0 0 ∧ w3.heap.size < w'.heap.size ∧ Below w.heap.size w w')
    (first
      | exact ⟨k0, k1, Y9.drew, kl, t4.drew⟩
      | go_keep
      | (go_split_ands; exact ⟨(hb1.cell (p := ⟨w3.heap.size, 0, none⟩) (by assumption)).trans (by assumption), (hb1.cell (p := ⟨w3.heap.size, 1, none⟩) (by assumption)).trans (by assumption), Box.keep (by assumption) hb1, Nat.lt_of_lt_of_le (by assumption) hb1.size, Below.trans (by assumption) (hb1.mono (Below.size (by assumption)))⟩))
    (first
      | (go_at_call 33; (with_reducible refine (HRP.out _).mono ?_); rintro e w4 ⟨rfl, hb1⟩))
  have hH : w4.cell? ⟨w3.heap.size, 0, none⟩ = some (.int .i64 p) ∧ w4.cell? ⟨w3.heap.size, 1, none⟩ = some (.int .i64 (p + n)) ∧ Box w4 w2.heap.size 43 0 0 ∧ w3.heap.size < w4.heap.size ∧ Below w.heap.size w w4 := by assumption
  obtain ⟨_, _, Z9, _, t5⟩ := hH
  clear k0 k1 kl Y9 t4 hs3 hb1
  go_wp2_with fail
  (with_reducible refine (HHN.out _).mono ?_)
  rintro e _ ⟨rfl, rfl⟩
  have t7 := t5
  have c90 := Z9.c0
  have c91 := Z9.c1
  have hl9 := Z9.lt
  clear Z9 t5
  go_wp2_with fail
  (with_reducible refine (awake_any _).mono ?_)
  rintro e w8 ⟨rfl, hb8⟩
  go_wp2_with fail
  go_ret
  exact ⟨rfl, t7.trans (hb8.mono t7.size)⟩

set_option maxHeartbeats 4000000 in
theorem numeralCold_nm (a b : Int) (hab : a < 0 ∨ b < 0 ∨ 1000000 < a ∨ 1000000 < b) (n : Int) (hn : n < 0) (w : World) :
    Calls Try.prog 10 #[.int .i64 a, .int .i64 b, .int .i64 n] w fun e w' => e = .returned (.bool true) ∧ Below w.heap.size w w' := by
  have HM := Lib.hid (fun V => Move_bad a b hab V)
  have HC := Lib.hid (fun V => Cold_no a b hab V)
  have HHN := Lib.hid (fun V => heaps_no a b hab V)
  clear hab
  have HP := Lib.hid (fun V => Pair_no n (.inl hn) V)
  have hd : decide (n < 0) = true := decide_eq_true hn
  go_enter Try.func10, Try.ntmps10
  go_wp2_with fail
  refine (HC.out _).mono ?_
  rintro e w1 ⟨rfl, hb1⟩
  go_wp2_with fail
  refine (HM.out _).mono ?_
  rintro e w2 ⟨rfl, hb2⟩
  have t2 := hb1.trans (hb2.mono hb1.size)
  clear hb1 hb2
  go_wp2_with fail
  refine (HP.out _).mono ?_
  rintro e w3 ⟨rfl, hb3⟩
  have X9 := (Box.new w2 43 0 0).keep hb3
  have t3 := t2.trans ((below_new hb3).mono t2.size)
  clear hb3 t2
  have heq := eq43
  have Z9 := X9.alloc (.cells #[.int .i64 0, .int .i64 0] 43)
  have t5 := t3.alloc t3.size (.cells #[.int .i64 0, .int .i64 0] 43)
  clear t3 X9
  go_wp2_with fail
  (with_reducible refine (HHN.out _).mono ?_)
  rintro e _ ⟨rfl, rfl⟩
  have t7 := t5
  have c90 := Z9.c0
  have c91 := Z9.c1
  have hl9 := Z9.lt
  clear Z9 t5
  go_wp2_with fail
  (with_reducible refine (awake_any _).mono ?_)
  rintro e w8 ⟨rfl, hb8⟩
  go_wp2_with fail
  go_ret
  exact ⟨rfl, t7.trans (hb8.mono t7.size)⟩

set_option maxHeartbeats 4000000 in
theorem numeralCold_nb (a b : Int) (hab : a < 0 ∨ b < 0 ∨ 1000000 < a ∨ 1000000 < b) (n : Int) (hn : 100000 < n) (w : World) :
    Calls Try.prog 10 #[.int .i64 a, .int .i64 b, .int .i64 n] w fun e w' => e = .returned (.bool true) ∧ Below w.heap.size w w' := by
  have HM := Lib.hid (fun V => Move_bad a b hab V)
  have HC := Lib.hid (fun V => Cold_no a b hab V)
  have HHN := Lib.hid (fun V => heaps_no a b hab V)
  clear hab
  have HP := Lib.hid (fun V => Pair_no n (.inr hn) V)
  have hd : decide (n < 0) = false := decide_eq_false (by omega)
  have hd' : decide (100000 < n) = true := decide_eq_true hn
  go_enter Try.func10, Try.ntmps10
  go_wp2_with fail
  refine (HC.out _).mono ?_
  rintro e w1 ⟨rfl, hb1⟩
  go_wp2_with fail
  refine (HM.out _).mono ?_
  rintro e w2 ⟨rfl, hb2⟩
  have t2 := hb1.trans (hb2.mono hb1.size)
  clear hb1 hb2
  go_wp2_with fail
  refine (HP.out _).mono ?_
  rintro e w3 ⟨rfl, hb3⟩
  have X9 := (Box.new w2 43 0 0).keep hb3
  have t3 := t2.trans ((below_new hb3).mono t2.size)
  clear hb3 t2
  have heq := eq43
  have Z9 := X9.alloc (.cells #[.int .i64 0, .int .i64 0] 43)
  have t5 := t3.alloc t3.size (.cells #[.int .i64 0, .int .i64 0] 43)
  clear t3 X9
  go_wp2_with fail
  (with_reducible refine (HHN.out _).mono ?_)
  rintro e _ ⟨rfl, rfl⟩
  have t7 := t5
  have c90 := Z9.c0
  have c91 := Z9.c1
  have hl9 := Z9.lt
  clear Z9 t5
  go_wp2_with fail
  (with_reducible refine (awake_any _).mono ?_)
  rintro e w8 ⟨rfl, hb8⟩
  go_wp2_with fail
  go_ret
  exact ⟨rfl, t7.trans (hb8.mono t7.size)⟩

/-- The walk of the law. -/
theorem numeralCold_walk (w : World) (a : Int) (_ : -9223372036854775808 ≤ a ∧ a ≤ 9223372036854775807) (b : Int) (_ : -9223372036854775808 ≤ b ∧ b ≤ 9223372036854775807) (n : Int) (_ : -9223372036854775808 ≤ n ∧ n ≤ 9223372036854775807) :
    Calls Try.prog 10 #[.int .i64 a, .int .i64 b, .int .i64 n] w fun e w' => e = .returned (.bool true) ∧ Below w.heap.size w w' := by
  by_cases hab : a < 0 ∨ b < 0 ∨ 1000000 < a ∨ 1000000 < b
  · by_cases h1 : n < 0
    · exact numeralCold_nm a b hab n h1 w
    · by_cases h2 : 100000 < n
      · exact numeralCold_nb a b hab n h2 w
      · obtain ⟨m, rfl⟩ := Int.eq_ofNat_of_zero_le (show 0 ≤ n by omega)
        exact numeralCold_ny a b hab m (by omega) w
  · obtain ⟨x, rfl⟩ := Int.eq_ofNat_of_zero_le (show 0 ≤ a by omega)
    obtain ⟨y, rfl⟩ := Int.eq_ofNat_of_zero_le (show 0 ≤ b by omega)
    by_cases h1 : n < 0
    · exact numeralCold_ym x y (by omega) (by omega) n h1 w
    · by_cases h2 : 100000 < n
      · exact numeralCold_yb x y (by omega) (by omega) n h2 w
      · obtain ⟨m, rfl⟩ := Int.eq_ofNat_of_zero_le (show 0 ≤ n by omega)
        exact numeralCold_yy x y (by omega) (by omega) m (by omega) w
end Go.Proofs.Ytiknocjdogbajaa
