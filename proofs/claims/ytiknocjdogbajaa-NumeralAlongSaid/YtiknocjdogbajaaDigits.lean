/- The walk of NumeralDigits. -/
import Derived.Test.YtiknocjdogbajaaAg
namespace Go.Proofs.Ytiknocjdogbajaa
open Go.RowKit

theorem Fr.take {q : List Int} (h : Fr q) : q.take 40 = q := List.take_of_length_le (by have := h.2.1; omega)
theorem fr_take {q : List Int} (h : ¬ Fr q) : ¬ Fr (q.take 40) := by
  intro h2
  by_cases hl : q.length ≤ 40
  · rw [List.take_of_length_le hl] at h2; exact h h2
  · have := h2.2.1
    rw [List.length_take] at this
    omega
/-- Along of copies of the beginnings -/
theorem Along_t (vq vc : Value) (q c : List Int) (h : Fr q) (w : World) (hq : Ints w vq q) (hc : Ints w vc (c.take 40)) :
    Calls Try.prog 38 #[vq, vc] w (RetAl q c w) := by
  by_cases hne : c.length = q.length
  · rw [List.take_of_length_le (by have := h.2.1; omega)] at hc
    exact Along_eql vq vc q c h hne w hq hc
  · refine (Along_badl vq vc q (c.take 40) h (by rw [List.length_take]; have := h.2.1; omega) w hq hc).mono ?_
    rintro e _ ⟨rfl, rfl⟩
    exact ⟨0, 2, .inr ⟨fun ha => hne ha.1, rfl, rfl⟩, rfl, Below.refl _ _⟩

set_option maxRecDepth 100000 in
set_option maxHeartbeats 4000000 in
theorem numeralDigits_bad (vq : Value) (q : List Int) (n : Int) (vc : Value) (c : List Int) (h : ¬ Fr q) (w : World) (hq : Ints w vq q) (hc : Ints w vc c) :
    Calls Try.prog 11 #[vq, .int .i64 n, vc] w fun e w' => e = .returned (.bool true) ∧ Below w.heap.size w w' := by
  have HF := Lib.hid h
  have HF4 := Lib.hid (fr_take h)
  have HQ := Lib.hid hq
  have HC := Lib.hid hc
  clear h hq hc
  go_enter Try.func11, Try.ntmps11
  go_wp2_with fail
  refine (list_any _ q _ HQ.out).mono ?_
  rintro e w1 ⟨v1, rfl, o1, b1⟩
  have t1 := b1
  have O1 := Lib.hid (o1.ints (by rw [List.length_take]; omega))
  clear o1 b1
  go_wp2_with fail
  refine (Digits_badq _ _ HF4.out n _ O1.out).mono ?_
  rintro e _ ⟨rfl, rfl⟩
  go_wp2_with fail
  refine (list_any _ q _ (HQ.out.keep t1)).mono ?_
  rintro e w2 ⟨v2, rfl, o2, b2⟩
  have t2 := t1.trans (b2.mono t1.size)
  have O2 := Lib.hid (o2.ints (by rw [List.length_take]; omega))
  clear o2 b2 t1
  go_wp2_with fail
  refine (list_any _ c _ (HC.out.keep t2)).mono ?_
  rintro e w3 ⟨v3, rfl, o3, b3⟩
  have t3 := t2.trans (b3.mono t2.size)
  have O3 := Lib.hid (o3.ints (by rw [List.length_take]; omega))
  have O2' := Lib.hid (O2.out.keep b3)
  clear o3 b3 t2
  go_wp2_with fail
  refine (Along_badq _ _ _ _ HF4.out _ O2'.out O3.out).mono ?_
  rintro e _ ⟨rfl, rfl⟩
  go_wp2_with fail
  refine (rFrac_no _ q HF.out _ (HQ.out.keep t3)).mono ?_
  rintro e _ ⟨rfl, rfl⟩
  go_wp2_with fail
  (with_reducible refine (awake_any _).mono ?_)
  rintro e w4 ⟨rfl, b4⟩
  go_wp2_with fail
  go_ret
  exact ⟨rfl, t3.trans (b4.mono t3.size)⟩

set_option maxRecDepth 100000 in
set_option maxHeartbeats 8000000 in
theorem numeralDigits_neg (vq : Value) (q : List Int) (n : Int) (vc : Value) (c : List Int) (h : Fr q) (hn : n < 0) (w : World) (hq : Ints w vq q) (hc : Ints w vc c) :
    Calls Try.prog 11 #[vq, .int .i64 n, vc] w fun e w' => e = .returned (.bool true) ∧ Below w.heap.size w w' := by
  have HF := Lib.hid h
  have HQ := Lib.hid hq
  have HC := Lib.hid hc
  have HT := Lib.hid h.take
  have HD := Lib.hid (fun v W hv => Digits_badn v q h n (.inl hn) W hv)
  have hd0 : decide (n < 0) = true := decide_eq_true hn
  obtain ⟨hlen, A, cp, rfl, hcp, hqr⟩ := hq
  have hqpos : 0 < q.length := by have := h.1; omega
  obtain ⟨adq, rfl, hblq, hcellq⟩ := hqr hqpos
  clear h hc hqr hcellq
  go_enter Try.func11, Try.ntmps11
  go_wp2_with fail
  refine (list_any _ q _ HQ.out).mono ?_
  rintro e w1 ⟨v1, rfl, o1, b1⟩
  have t1 := b1
  have O1 := Lib.hid (o1.ints (by rw [List.length_take]; omega))
  clear o1 b1
  rw [HT.out] at O1
  go_wp2_with fail
  refine (HD.out _ _ O1.out).mono ?_
  rintro e w1' ⟨rfl, ba⟩
  have t1' := t1.trans (ba.mono t1.size)
  clear t1 ba
  go_wp2_with fail
  refine (list_any _ q _ (HQ.out.keep t1')).mono ?_
  rintro e w2 ⟨v2, rfl, o2, b2⟩
  have t2 := t1'.trans (b2.mono t1'.size)
  have O2 := Lib.hid (o2.ints (by rw [List.length_take]; omega))
  clear o2 b2 t1'
  rw [HT.out] at O2
  go_wp2_with fail
  refine (list_any _ c _ (HC.out.keep t2)).mono ?_
  rintro e w3 ⟨v3, rfl, o3, b3⟩
  have t3 := t2.trans (b3.mono t2.size)
  have O3 := Lib.hid (o3.ints (by rw [List.length_take]; omega))
  have O2' := Lib.hid (O2.out.keep b3)
  clear o3 b3 t2
  go_wp2_with fail
  refine (Along_t _ _ q c HF.out _ O2'.out O3.out).mono ?_
  rintro e w4 ⟨x, s, hans, rfl, b4⟩
  have t4 := t3.trans (b4.mono t3.size)
  clear t3 b4
  have HANS := Lib.hid hans
  clear hans
  go_wp2_with fail
  refine (rFrac_yes _ q HF.out _ (HQ.out.keep t4)).mono ?_
  rintro e _ ⟨rfl, rfl⟩
  go_wp2_with fail
  refine (under_any _ q HF.out _ (HQ.out.keep t4)).mono ?_
  rintro e w5 ⟨vd, rfl, hown, b5⟩
  have t5 := t4.trans (b5.mono t4.size)
  have hl := dens_length q (q.length + 1)
  obtain ⟨g, cap, rfl, hcap, hg1, hg2, hcs⟩ := hown.seen (by omega)
  rw [hl] at hcap ⊢
  have hcl := hcs q.length _ (dens_get q _ q.length (by omega))
  clear t4 b5 hl hcs hown
  rcases HANS.out with ⟨ha, rfl, rfl⟩ | ⟨ha, rfl, rfl⟩
  · have HA := Lib.hid ha
    clear ha
    go_wp2_with fail
    refine (isAlong_any _ _ q c HF.out true (by simp [HA.out]) _ (HQ.out.keep t5) (HC.out.keep t5)).mono ?_
    rintro e _ ⟨rfl, rfl⟩
    go_wp2_with fail
    refine (rAlong_any _ _ q c HF.out HA.out _ (HQ.out.keep t5) (HC.out.keep t5)).mono ?_
    rintro e w8 ⟨rfl, b8⟩
    have t8 := t5.trans (b8.mono t5.size)
    clear t5 b8
    go_wp2_with fail
    (with_reducible refine (awake_any _).mono ?_)
    rintro e w9 ⟨rfl, b9⟩
    go_wp2_with fail
    go_ret
    exact ⟨rfl, t8.trans (b9.mono t8.size)⟩
  · have HA := Lib.hid ha
    clear ha
    go_wp2_with fail
    refine (isAlong_any _ _ q c HF.out false (by simp [HA.out]) _ (HQ.out.keep t5) (HC.out.keep t5)).mono ?_
    rintro e _ ⟨rfl, rfl⟩
    go_wp2_with fail
    (with_reducible refine (awake_any _).mono ?_)
    rintro e w9 ⟨rfl, b9⟩
    go_wp2_with fail
    go_ret
    exact ⟨rfl, t5.trans (b9.mono t5.size)⟩

set_option maxRecDepth 100000 in
set_option maxHeartbeats 8000000 in
theorem numeralDigits_big (vq : Value) (q : List Int) (n : Int) (vc : Value) (c : List Int) (h : Fr q) (hn : den q q.length ≤ n) (w : World) (hq : Ints w vq q) (hc : Ints w vc c) :
    Calls Try.prog 11 #[vq, .int .i64 n, vc] w fun e w' => e = .returned (.bool true) ∧ Below w.heap.size w w' := by
  have HF := Lib.hid h
  have HQ := Lib.hid hq
  have HC := Lib.hid hc
  have HT := Lib.hid h.take
  have HD := Lib.hid (fun v W hv => Digits_badn v q h n (.inr hn) W hv)
  have hden := (den_le q h q.length (Nat.le_refl _)).1
  have hd0 : decide (n < 0) = false := decide_eq_false (by omega)
  have hd1 : decide (den q q.length ≤ n) = true := decide_eq_true hn
  obtain ⟨hlen, A, cp, rfl, hcp, hqr⟩ := hq
  have hqpos : 0 < q.length := by have := h.1; omega
  obtain ⟨adq, rfl, hblq, hcellq⟩ := hqr hqpos
  clear h hc hqr hcellq
  go_enter Try.func11, Try.ntmps11
  go_wp2_with fail
  refine (list_any _ q _ HQ.out).mono ?_
  rintro e w1 ⟨v1, rfl, o1, b1⟩
  have t1 := b1
  have O1 := Lib.hid (o1.ints (by rw [List.length_take]; omega))
  clear o1 b1
  rw [HT.out] at O1
  go_wp2_with fail
  refine (HD.out _ _ O1.out).mono ?_
  rintro e w1' ⟨rfl, ba⟩
  have t1' := t1.trans (ba.mono t1.size)
  clear t1 ba
  go_wp2_with fail
  refine (list_any _ q _ (HQ.out.keep t1')).mono ?_
  rintro e w2 ⟨v2, rfl, o2, b2⟩
  have t2 := t1'.trans (b2.mono t1'.size)
  have O2 := Lib.hid (o2.ints (by rw [List.length_take]; omega))
  clear o2 b2 t1'
  rw [HT.out] at O2
  go_wp2_with fail
  refine (list_any _ c _ (HC.out.keep t2)).mono ?_
  rintro e w3 ⟨v3, rfl, o3, b3⟩
  have t3 := t2.trans (b3.mono t2.size)
  have O3 := Lib.hid (o3.ints (by rw [List.length_take]; omega))
  have O2' := Lib.hid (O2.out.keep b3)
  clear o3 b3 t2
  go_wp2_with fail
  refine (Along_t _ _ q c HF.out _ O2'.out O3.out).mono ?_
  rintro e w4 ⟨x, s, hans, rfl, b4⟩
  have t4 := t3.trans (b4.mono t3.size)
  clear t3 b4
  have HANS := Lib.hid hans
  clear hans
  go_wp2_with fail
  refine (rFrac_yes _ q HF.out _ (HQ.out.keep t4)).mono ?_
  rintro e _ ⟨rfl, rfl⟩
  go_wp2_with fail
  refine (under_any _ q HF.out _ (HQ.out.keep t4)).mono ?_
  rintro e w5 ⟨vd, rfl, hown, b5⟩
  have t5 := t4.trans (b5.mono t4.size)
  have hl := dens_length q (q.length + 1)
  obtain ⟨g, cap, rfl, hcap, hg1, hg2, hcs⟩ := hown.seen (by omega)
  rw [hl] at hcap ⊢
  have hcl := hcs q.length _ (dens_get q _ q.length (by omega))
  clear t4 b5 hl hcs hown
  rcases HANS.out with ⟨ha, rfl, rfl⟩ | ⟨ha, rfl, rfl⟩
  · have HA := Lib.hid ha
    clear ha
    go_wp2_with fail
    refine (isAlong_any _ _ q c HF.out true (by simp [HA.out]) _ (HQ.out.keep t5) (HC.out.keep t5)).mono ?_
    rintro e _ ⟨rfl, rfl⟩
    go_wp2_with fail
    refine (rAlong_any _ _ q c HF.out HA.out _ (HQ.out.keep t5) (HC.out.keep t5)).mono ?_
    rintro e w8 ⟨rfl, b8⟩
    have t8 := t5.trans (b8.mono t5.size)
    clear t5 b8
    go_wp2_with fail
    (with_reducible refine (awake_any _).mono ?_)
    rintro e w9 ⟨rfl, b9⟩
    go_wp2_with fail
    go_ret
    exact ⟨rfl, t8.trans (b9.mono t8.size)⟩
  · have HA := Lib.hid ha
    clear ha
    go_wp2_with fail
    refine (isAlong_any _ _ q c HF.out false (by simp [HA.out]) _ (HQ.out.keep t5) (HC.out.keep t5)).mono ?_
    rintro e _ ⟨rfl, rfl⟩
    go_wp2_with fail
    (with_reducible refine (awake_any _).mono ?_)
    rintro e w9 ⟨rfl, b9⟩
    go_wp2_with fail
    go_ret
    exact ⟨rfl, t5.trans (b9.mono t5.size)⟩

set_option maxRecDepth 100000 in
set_option maxHeartbeats 8000000 in
theorem numeralDigits_ok (vq : Value) (q : List Int) (n : Int) (vc : Value) (c : List Int) (h : Fr q) (h0 : 0 ≤ n) (hn : n < den q q.length) (w : World) (hq : Ints w vq q) (hc : Ints w vc c) :
    Calls Try.prog 11 #[vq, .int .i64 n, vc] w fun e w' => e = .returned (.bool true) ∧ Below w.heap.size w w' := by
  have HF := Lib.hid h
  have HQ := Lib.hid hq
  have HC := Lib.hid hc
  have HT := Lib.hid h.take
  have HD := Lib.hid (fun v W hv => Digits_yes v q h n h0 hn W hv)
  have HRD := Lib.hid (fun v W hv => rDigits_any v q h n h0 hn W hv)
  have hd0 : decide (n < 0) = false := decide_eq_false (by omega)
  have hd1 : decide (den q q.length ≤ n) = false := decide_eq_false (by omega)
  obtain ⟨hlen, A, cp, rfl, hcp, hqr⟩ := hq
  have hqpos : 0 < q.length := by have := h.1; omega
  obtain ⟨adq, rfl, hblq, hcellq⟩ := hqr hqpos
  clear h hc hqr hcellq
  go_enter Try.func11, Try.ntmps11
  go_wp2_with fail
  refine (list_any _ q _ HQ.out).mono ?_
  rintro e w1 ⟨v1, rfl, o1, b1⟩
  have t1 := b1
  have O1 := Lib.hid (o1.ints (by rw [List.length_take]; omega))
  clear o1 b1
  rw [HT.out] at O1
  go_wp2_with fail
  refine (HD.out _ _ O1.out).mono ?_
  rintro e w1' ⟨va, rfl, ia, ba⟩
  have HIA := Lib.hid ia
  obtain ⟨hlena, Aa, ca, rfl, hcpa, har⟩ := ia
  have t1' := t1.trans (ba.mono t1.size)
  clear t1 ba har
  go_wp2_with fail
  refine (list_any _ q _ (HQ.out.keep t1')).mono ?_
  rintro e w2 ⟨v2, rfl, o2, b2⟩
  have t2 := t1'.trans (b2.mono t1'.size)
  have O2 := Lib.hid (o2.ints (by rw [List.length_take]; omega))
  have HIA := Lib.hid (HIA.out.keep b2)
  clear o2 b2 t1'
  rw [HT.out] at O2
  go_wp2_with fail
  refine (list_any _ c _ (HC.out.keep t2)).mono ?_
  rintro e w3 ⟨v3, rfl, o3, b3⟩
  have t3 := t2.trans (b3.mono t2.size)
  have O3 := Lib.hid (o3.ints (by rw [List.length_take]; omega))
  have O2' := Lib.hid (O2.out.keep b3)
  have HIA := Lib.hid (HIA.out.keep b3)
  clear o3 b3 t2
  go_wp2_with fail
  refine (Along_t _ _ q c HF.out _ O2'.out O3.out).mono ?_
  rintro e w4 ⟨x, s, hans, rfl, b4⟩
  have t4 := t3.trans (b4.mono t3.size)
  have HIA := Lib.hid (HIA.out.keep b4)
  clear t3 b4
  have HANS := Lib.hid hans
  clear hans
  go_wp2_with fail
  refine (rFrac_yes _ q HF.out _ (HQ.out.keep t4)).mono ?_
  rintro e _ ⟨rfl, rfl⟩
  go_wp2_with fail
  refine (under_any _ q HF.out _ (HQ.out.keep t4)).mono ?_
  rintro e w5 ⟨vd, rfl, hown, b5⟩
  have t5 := t4.trans (b5.mono t4.size)
  have HIA := Lib.hid (HIA.out.keep b5)
  have hl := dens_length q (q.length + 1)
  obtain ⟨g, cap, rfl, hcap, hg1, hg2, hcs⟩ := hown.seen (by omega)
  rw [hl] at hcap ⊢
  have hcl := hcs q.length _ (dens_get q _ q.length (by omega))
  clear t4 b5 hl hcs hown
  go_wp2_with fail
  refine (HRD.out _ _ (HQ.out.keep t5)).mono ?_
  rintro e w6 ⟨vr, rfl, ir, b6⟩
  have t6 := t5.trans (b6.mono t5.size)
  have HIR := Lib.hid ir
  have HIA := Lib.hid (HIA.out.keep b6)
  clear t5 b6 ir hcl
  go_wp2_with fail
  refine (equal_yes _ _ (dgs q n) _ HIA.out HIR.out).mono ?_
  rintro e w7 ⟨rfl, b7⟩
  have t7 := t6.trans (b7.mono t6.size)
  clear t6 b7
  rcases HANS.out with ⟨ha, rfl, rfl⟩ | ⟨ha, rfl, rfl⟩
  · have HA := Lib.hid ha
    clear ha
    go_wp2_with fail
    refine (isAlong_any _ _ q c HF.out true (by simp [HA.out]) _ (HQ.out.keep t7) (HC.out.keep t7)).mono ?_
    rintro e _ ⟨rfl, rfl⟩
    go_wp2_with fail
    refine (rAlong_any _ _ q c HF.out HA.out _ (HQ.out.keep t7) (HC.out.keep t7)).mono ?_
    rintro e w8 ⟨rfl, b8⟩
    have t8 := t7.trans (b8.mono t7.size)
    clear t7 b8
    go_wp2_with fail
    (with_reducible refine (awake_any _).mono ?_)
    rintro e w9 ⟨rfl, b9⟩
    go_wp2_with fail
    go_ret
    exact ⟨rfl, t8.trans (b9.mono t8.size)⟩
  · have HA := Lib.hid ha
    clear ha
    go_wp2_with fail
    refine (isAlong_any _ _ q c HF.out false (by simp [HA.out]) _ (HQ.out.keep t7) (HC.out.keep t7)).mono ?_
    rintro e _ ⟨rfl, rfl⟩
    go_wp2_with fail
    (with_reducible refine (awake_any _).mono ?_)
    rintro e w9 ⟨rfl, b9⟩
    go_wp2_with fail
    go_ret
    exact ⟨rfl, t7.trans (b9.mono t7.size)⟩

/-- The walk of the law. -/
theorem numeralDigits_walk (w : World) (vq : Value) (q : List Int) (hq : Ints w vq q) (_ : ∀ n ∈ q, -9223372036854775808 ≤ n ∧ n ≤ 9223372036854775807) (n : Int) (_ : -9223372036854775808 ≤ n ∧ n ≤ 9223372036854775807) (vc : Value) (c : List Int) (hc : Ints w vc c) (_ : ∀ n ∈ c, -9223372036854775808 ≤ n ∧ n ≤ 9223372036854775807) :
    Calls Try.prog 11 #[vq, .int .i64 n, vc] w fun e w' => e = .returned (.bool true) ∧ Below w.heap.size w w' := by
  by_cases h : Fr q
  · by_cases h1 : n < 0
    · exact numeralDigits_neg vq q n vc c h h1 w hq hc
    · by_cases h2 : den q q.length ≤ n
      · exact numeralDigits_big vq q n vc c h h2 w hq hc
      · exact numeralDigits_ok vq q n vc c h (by omega) (by omega) w hq hc
  · exact numeralDigits_bad vq q n vc c h w hq hc
end Go.Proofs.Ytiknocjdogbajaa
