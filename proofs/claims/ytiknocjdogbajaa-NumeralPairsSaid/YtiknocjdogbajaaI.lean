/- Walks over heaps: Cold, Pair, partner, taken; the reference's Pair and Cold. -/
import Derived.Test.YtiknocjdogbajaaH
namespace Go.Proofs.Ytiknocjdogbajaa
open Go.RowKit

/-- two cells of a block of the call's own stay behind a call -/
theorem box_keep {W w1 : World} {g : Nat} (hb : Below W.heap.size W w1) (hz : g < W.heap.size) (o : Nat) : w1.cell? ⟨g, o, none⟩ = W.cell? ⟨g, o, none⟩ := hb.cell (p := ⟨g, o, none⟩) hz

set_option maxHeartbeats 2000000 in
theorem Cold_no (a b : Int) (h : a < 0 ∨ b < 0 ∨ 1000000 < a ∨ 1000000 < b) (w : World) :
    Calls Try.prog 31 #[.int .i64 a, .int .i64 b] w fun e w' => e = .returned (.tuple #[.bool false, .int .i64 2]) ∧ Below w.heap.size w w' := by
  have H := Lib.hid h; clear h
  go_enter Try.func31, Try.ntmps31
  go_wp2_with fail
  refine (hvalid_no a b H.out _).mono ?_
  rintro e w1 ⟨rfl, hb1⟩
  go_wp2
  go_ret2
  exact ⟨rfl, below_new hb1⟩
set_option maxHeartbeats 2000000 in
theorem Cold_ok (a b : Nat) (ha : a ≤ 1000000) (hb : b ≤ 1000000) (r : Bool) (hr : r = true ↔ Cold a b) (w : World) :
    Calls Try.prog 31 #[.int .i64 a, .int .i64 b] w fun e w' => e = .returned (.tuple #[.bool r, .int .i64 0]) ∧ Below w.heap.size w w' := by
  have HR := Lib.hid hr; clear hr
  go_enter Try.func31, Try.ntmps31
  go_wp2_with fail
  refine (hvalid_yes a b (by omega) (by omega) (by omega) (by omega) _).mono ?_
  rintro e w1 ⟨rfl, hb1⟩
  have hc0 := box_keep hb1 (g := w.heap.size) (by simp) 0
  have hc1 := box_keep hb1 (g := w.heap.size) (by simp) 1
  simp only [go_sem] at hc0 hc1
  go_wp2_with fail
  refine (cold_any a b ha hb r HR.out _).mono ?_
  rintro e w2 ⟨rfl, hb2⟩
  have hb3 := below_new hb1
  clear hc0 hc1 hb1
  go_wp2
  go_ret2
  exact ⟨rfl, hb3.trans (hb2.mono hb3.size)⟩
set_option maxHeartbeats 2000000 in
theorem Pair_ok (n : Nat) (hn : n ≤ 100000) (w : World) :
    Calls Try.prog 30 #[.int .i64 n] w fun e w' => e = .returned (.tuple #[.agg #[.int .i64 (pa n), .int .i64 ((pa n : Int) + n)], .int .i64 0]) ∧ Below w.heap.size w w' := by
  have hd : decide (100000 < n) = false := decide_eq_false (by omega)
  go_enter Try.func30, Try.ntmps30
  go_wp2_with fail
  refine (pair_any n (by omega) _).mono ?_
  rintro e w1 ⟨rfl, hb1⟩
  obtain ⟨hc, hf⟩ := bcell hb1
  have hz : w.heap.size < w1.heap.size := by have := hb1.size; simp at this; omega
  go_wp2_with fail
  refine bodyPost_ret (v := .tuple #[.agg #[.int .i64 (pa n), .int .i64 ((pa n : Int) + n)], .int .i64 0]) (by simp [results, Try.results30, go_sem, hc]) rfl ⟨rfl, ?_⟩
  exact ((below_new hb1).setCell (p := ⟨w.heap.size, 0, none⟩) (Nat.le_refl _) _).setCell (p := ⟨w.heap.size, 1, none⟩) (Nat.le_refl _) _
set_option maxHeartbeats 2000000 in
theorem Pair_no (n : Int) (hn : n < 0 ∨ 100000 < n) (w : World) :
    Calls Try.prog 30 #[.int .i64 n] w fun e w' => e = .returned (.tuple #[.agg #[.int .i64 0, .int .i64 0], .int .i64 2]) ∧ Below w.heap.size w w' := by
  by_cases h0 : n < 0
  · have hd : decide (n < 0) = true := decide_eq_true h0
    go_enter Try.func30, Try.ntmps30
    go_wp2_with fail
    exact bodyPost_ret (v := .tuple #[.agg #[.int .i64 0, .int .i64 0], .int .i64 2]) (by simp [results, Try.results30, go_sem]) rfl ⟨rfl, (Below.refl _ _).alloc (Nat.le_refl _) _⟩
  · have hd : decide (n < 0) = false := decide_eq_false h0
    have hd2 : decide (100000 < n) = true := decide_eq_true (by omega)
    go_enter Try.func30, Try.ntmps30
    go_wp2_with fail
    exact bodyPost_ret (v := .tuple #[.agg #[.int .i64 0, .int .i64 0], .int .i64 2]) (by simp [results, Try.results30, go_sem]) rfl ⟨rfl, (Below.refl _ _).alloc (Nat.le_refl _) _⟩

/-! ### the reference's Pair -/
theorem sq_le_of (r n : Nat) (hn : n ≤ 1000000) (h : r * r ≤ 5 * n * n) : r ≤ 2236068 := by
  rcases Nat.lt_or_ge 2236068 r with hr | hr
  · have h1 : 2236069 * 2236069 ≤ r * r := Nat.mul_le_mul hr hr
    have h2 : n * n ≤ 1000000 * 1000000 := Nat.mul_le_mul hn hn
    have e : 5 * n * n = 5 * (n * n) := Nat.mul_assoc 5 n n
    omega
  · exact hr
theorem pa_sq (n : Nat) (h : 1 ≤ n) (hn : n ≤ 1000000000000) :
    (2 * (pa n : Int) - n) * (2 * (pa n : Int) - n) < 5 * ((n : Int) * n) ∧ 5 * ((n : Int) * n) < (2 * (pa n : Int) + 2 - n) * (2 * (pa n : Int) + 2 - n) := by
  have w := pa_window n h hn
  have l := pa_le n hn
  constructor
  · exact sq_lt (c := 308061521170129) (d := 688846502588399) (by omega) (by omega) (by omega) (by omega) (by omega) (by omega)
  · exact sq_gt (c := 190392490709135) (d := 425730551631123) (by omega) (by omega) (by omega) (by omega) (by omega)
theorem self_le {a b : Int} (ha : 0 ≤ a) (h : a ≤ b) : a * a ≤ b * b := Int.mul_le_mul h h ha (by omega)
/-- the greatest number whose square fits gives the first heap -/
theorem pa_of_root (n r : Nat) (hn : n ≤ 1000000) (h1 : r * r ≤ 5 * n * n) (h2 : 5 * n * n < (r + 1) * (r + 1)) : (n + r) / 2 = pa n := by
  by_cases h0 : n = 0
  · subst h0
    have : r = 0 := by
      rcases Nat.eq_zero_or_pos r with h | h
      · exact h
      · have := Nat.mul_le_mul h h; omega
    subst this; rfl
  · have s := pa_sq n (by omega) (by omega)
    have l := pa_le n (by omega)
    have e1 : (r : Int) * r ≤ 5 * ((n : Int) * n) := by
      have : ((r * r : Nat) : Int) ≤ (5 * n * n : Nat) := by omega
      rw [show (5 * n * n : Nat) = 5 * (n * n) from Nat.mul_assoc 5 n n] at this
      push_cast at this
      exact this
    have e2 : 5 * ((n : Int) * n) < ((r : Int) + 1) * (r + 1) := by
      have : ((5 * n * n : Nat) : Int) < ((r + 1) * (r + 1) : Nat) := by omega
      rw [show (5 * n * n : Nat) = 5 * (n * n) from Nat.mul_assoc 5 n n] at this
      push_cast at this
      exact this
    have a1 : 2 * (pa n : Int) - n < r + 1 := by
      rcases Int.lt_or_le (2 * (pa n : Int) - n) (r + 1) with h | h
      · exact h
      · have := self_le (by omega) h; omega
    have a2 : (r : Int) < 2 * (pa n : Int) + 2 - n := by
      rcases Int.lt_or_le (r : Int) (2 * (pa n : Int) + 2 - n) with h | h
      · exact h
      · have := self_le (by omega) h; omega
    omega
def pw (j : Nat) : Nat := if j = 0 then 0 else 2 ^ (j - 1)
theorem pw_zero : pw 0 = 0 := rfl
theorem pw_succ (j : Nat) : pw (j + 1) = 2 ^ j := by simp [pw]
theorem pw_half (j : Nat) : pw (j + 1) / 2 = pw j := by
  rw [pw_succ]
  match j with
  | 0 => rfl
  | j + 1 => rw [pw_succ, Nat.pow_succ]; omega
theorem pw_pos (j : Nat) : 1 ≤ pw (j + 1) := by rw [pw_succ]; exact Nat.one_le_two_pow
theorem pw_le (j : Nat) (h : j ≤ 31) : pw j ≤ 1073741824 := by
  match j with
  | 0 => simp [pw]
  | j + 1 => rw [pw_succ]; exact Nat.pow_le_pow_right (n := 2) (by omega) (show j ≤ 30 by omega)
/-- what the search knows: r fits, and r and the step before this one does not -/
def Root (n j r : Nat) : Prop := r * r ≤ 5 * n * n ∧ 5 * n * n < (r + 2 ^ j) * (r + 2 ^ j)
theorem root_start (n : Nat) (hn : n ≤ 1000000) : Root n 31 0 := by
  refine ⟨by simp, ?_⟩
  have h2 : n * n ≤ 1000000 * 1000000 := Nat.mul_le_mul hn hn
  have e : 5 * n * n = 5 * (n * n) := Nat.mul_assoc 5 n n
  have : (0 + 2 ^ 31) * (0 + 2 ^ 31) = 4611686018427387904 := by decide
  omega
theorem root_take {n j r : Nat} (h : Root n (j + 1) r) (hx : (r + pw (j + 1)) * (r + pw (j + 1)) ≤ 5 * n * n) : Root n j (r + pw (j + 1)) := by
  refine ⟨hx, ?_⟩
  rw [pw_succ]
  have := h.2
  rw [Nat.pow_succ] at this
  have e : r + 2 ^ j + 2 ^ j = r + 2 ^ j * 2 := by omega
  rw [e]; exact this
theorem root_skip {n j r : Nat} (h : Root n (j + 1) r) (hx : 5 * n * n < (r + pw (j + 1)) * (r + pw (j + 1))) : Root n j r := by
  refine ⟨h.1, ?_⟩
  rw [pw_succ] at hx; exact hx
set_option maxHeartbeats 2000000 in
theorem rPair_any (n : Nat) (hn : n ≤ 1000000) (w : World) :
    Calls Try.prog 33 #[.int .i64 n] w fun e w' => e = .returned (.agg #[.int .i64 (pa n), .int .i64 ((pa n : Int) + n)]) ∧ Below w.heap.size w w' := by
  have hnn : (n : Int) * n ≤ 1000000000000 := by
    have := Int.mul_le_mul (show (n : Int) ≤ 1000000 by omega) (show (n : Int) ≤ 1000000 by omega) (by omega) (by omega)
    omega
  have hn0 : (0 : Int) ≤ 5 * (n : Int) * n := Int.mul_nonneg (by omega) (by omega)
  have hn5 : 5 * (n : Int) * n ≤ 5000000000000 := by rw [Int.mul_assoc]; omega
  clear hnn
  go_enter Try.func33, Try.ntmps33
  go_wp2
  go_loop [3, 4, 5] (fun r s _ => ∃ rr j : Nat, j ≤ 31 ∧ Root n j rr ∧ r = .int .i64 rr ∧ s = .int .i64 (pw j)) (fun _ s _ => (intOf s).toNat)
  case atStart => exact ⟨0, 31, by omega, root_start n hn, rfl, rfl⟩
  case round =>
    obtain ⟨r, j, hj, hroot, rfl, rfl⟩ := hrel
    have hr := sq_le_of r n hn hroot.1
    have HRT := Lib.hid hroot; clear hroot
    match j, hj, HRT with
    | 0, hj, HRT =>
      have hp := pa_of_root n r hn HRT.out.1 (by have := HRT.out.2; simpa using this)
      have hp' : ((n : Int) + r) / 2 = pa n := by omega
      have HP := Lib.hid hp'
      have hpl := pa_le n (by omega)
      rw [pw_zero]
      clear hp hp'
      go_wp2_with fail
      exact bodyPost_ret (v := .agg #[.int .i64 (((n : Int) + r) / 2), .int .i64 (((n : Int) + r) / 2 + n)]) (by simp [results, Try.results33, go_sem]) rfl ⟨by rw [HP.out], (Below.refl _ _).alloc (Nat.le_refl _) _⟩
    | j + 1, hj, HRT =>
      have hp1 := pw_pos j
      have hp2 := pw_le (j + 1) hj
      have hh := pw_half j
      have hh' : ((pw (j + 1) : Nat) : Int) / 2 = pw j := by omega
      have hlt : pw j < pw (j + 1) := by omega
      have hxb : ((r : Int) + pw (j + 1)) * ((r : Int) + pw (j + 1)) ≤ 2000000000 * 2000000000 := Int.mul_le_mul (by omega) (by omega) (by omega) (by omega)
      have hx0 : (0 : Int) ≤ ((r : Int) + pw (j + 1)) * ((r : Int) + pw (j + 1)) := Int.mul_nonneg (by omega) (by omega)
      have hcast : (((r + pw (j + 1)) * (r + pw (j + 1)) : Nat) : Int) = ((r : Int) + pw (j + 1)) * ((r : Int) + pw (j + 1)) := by push_cast; rfl
      have hcast2 : ((5 * n * n : Nat) : Int) = 5 * (n : Int) * n := by push_cast; rfl
      by_cases hx : (r + pw (j + 1)) * (r + pw (j + 1)) ≤ 5 * n * n
      · have hxi : ((r : Int) + pw (j + 1)) * ((r : Int) + pw (j + 1)) ≤ 5 * (n : Int) * n := by omega
        have HT := Lib.hid (root_take HRT.out hx)
        have HH := Lib.hid hh'
        clear hx hcast hcast2 hh hh'
        generalize pw (j + 1) = s at *
        go_wp2
        go_round
        case rel => exact ⟨r + s, j, by omega, HT.out, by go_num, by rw [HH.out]⟩
        case measure => rw [HH.out]; simp [intOf]; omega
      · have hxi : 5 * (n : Int) * n < ((r : Int) + pw (j + 1)) * ((r : Int) + pw (j + 1)) := by omega
        have HT := Lib.hid (root_skip HRT.out (by omega))
        have HH := Lib.hid hh'
        clear hx hcast hcast2 hh hh'
        generalize pw (j + 1) = s at *
        go_wp2
        go_round
        case rel => exact ⟨r, j, by omega, HT.out, rfl, by rw [HH.out]⟩
        case measure => rw [HH.out]; simp [intOf]; omega

theorem rPair_diff (x y : Nat) (h : y ≤ x) (hx : x ≤ 1000000) (w : World) :
    Calls Try.prog 33 #[.int .i64 ((x : Int) - y)] w fun e w' => e = .returned (.agg #[.int .i64 (pa (x - y)), .int .i64 ((pa (x - y) : Int) + (x - y : Nat))]) ∧ Below w.heap.size w w' := by
  have := rPair_any (x - y) (by omega) w
  rw [show ((x - y : Nat) : Int) = (x : Int) - y by omega] at this ⊢
  exact this
theorem index43_0 (x y : Int) (W : World) : (Instr.index 43 (.agg #[.int .i64 x, .int .i64 y]) (.int .i64 0)).run Try.prog W = .ok (.int .i64 x) W := by kernel_rfl
theorem index43_1 (x y : Int) (W : World) : (Instr.index 43 (.agg #[.int .i64 x, .int .i64 y]) (.int .i64 1)).run Try.prog W = .ok (.int .i64 y) W := by kernel_rfl
theorem beq_nat (x y : Nat) : ((x : Int) == (y : Int)) = decide (x = y) := by
  rw [Bool.eq_iff_iff]; simp; omega
theorem rPair_zero (w : World) : Calls Try.prog 33 #[.int .i64 0] w fun e w' => e = .returned (.agg #[.int .i64 (pa 0), .int .i64 ((pa 0 : Int) + (0 : Nat))]) ∧ Below w.heap.size w w' := rPair_any 0 (by omega) w
set_option maxHeartbeats 2000000 in
theorem rCold_any (a b : Nat) (ha : a ≤ 1000000) (hb : b ≤ 1000000) (r : Bool) (hr : r = true ↔ Cold a b) (w : World) :
    Calls Try.prog 36 #[.int .i64 a, .int .i64 b] w fun e w' => e = .returned (.bool r) ∧ Below w.heap.size w w' := by
  have hi0 := index43_0
  unfold Cold at hr
  rcases Nat.lt_trichotomy a b with h | h | h
  · rw [Nat.min_eq_left (by omega), Nat.max_eq_right (by omega)] at hr
    have HR := Lib.hid (show ((pa (b - a) : Int) == (a : Int)) = r by rw [beq_nat, Bool.eq_iff_iff, hr]; simp; omega)
    clear hr
    go_enter Try.func36, Try.ntmps36
    go_wp2_with fail
    refine (rPair_diff b a (by omega) hb _).mono ?_
    rintro e w1 ⟨rfl, hb1⟩
    go_wp2
    go_ret
    exact ⟨ret_bool HR.out, hb1⟩
  · subst h
    rw [Nat.min_self, Nat.max_self, Nat.sub_self, pa_zero] at hr
    have HR := Lib.hid (show ((0 : Int) == (a : Int)) = r by rw [show (0 : Int) = ((0 : Nat) : Int) from rfl, beq_nat, Bool.eq_iff_iff, hr]; simp; omega)
    clear hr
    have hp0 : ((pa 0 : Nat) : Int) = 0 := rfl
    have hz := rPair_zero
    rw [hp0] at hz
    have HZ := Lib.hid hz
    clear hz hp0
    go_enter Try.func36, Try.ntmps36
    go_wp2_with fail
    refine (HZ.out _).mono ?_
    rintro e w1 ⟨rfl, hb1⟩
    go_wp2
    go_ret
    exact ⟨ret_bool HR.out, hb1⟩
  · rw [Nat.min_eq_right (by omega), Nat.max_eq_left (by omega)] at hr
    have HR := Lib.hid (show ((pa (a - b) : Int) == (b : Int)) = r by rw [beq_nat, Bool.eq_iff_iff, hr]; simp; omega)
    clear hr
    go_enter Try.func36, Try.ntmps36
    go_wp2_with fail
    refine (rPair_diff a b (by omega) ha _).mono ?_
    rintro e w1 ⟨rfl, hb1⟩
    go_wp2
    go_ret
    exact ⟨ret_bool HR.out, hb1⟩
theorem heaps_yes (a b : Int) (h1 : 0 ≤ a) (h2 : 0 ≤ b) (h3 : a ≤ 1000000) (h4 : b ≤ 1000000) (w : World) :
    Calls Try.prog 34 #[.int .i64 a, .int .i64 b] w fun e w' => e = .returned (.bool true) ∧ w = w' := by
  have hd1 : decide (0 ≤ b) = true := decide_eq_true h2
  have hd2 : decide (a ≤ 1000000) = true := decide_eq_true h3
  have hd3 : decide (b ≤ 1000000) = true := decide_eq_true h4
  go_enter Try.func34, Try.ntmps34
  go_wp2
  go_ret
  exact ⟨rfl, rfl⟩
set_option maxHeartbeats 2000000 in
theorem heaps_no (a b : Int) (h : a < 0 ∨ b < 0 ∨ 1000000 < a ∨ 1000000 < b) (w : World) :
    Calls Try.prog 34 #[.int .i64 a, .int .i64 b] w fun e w' => e = .returned (.bool false) ∧ w = w' := by
  by_cases c1 : a < 0
  · have hd0 : decide (0 ≤ a) = false := decide_eq_false (by omega)
    clear h
    go_enter Try.func34, Try.ntmps34
    go_wp2
    go_ret
    exact ⟨rfl, rfl⟩
  · have hd0 : decide (0 ≤ a) = true := decide_eq_true (by omega)
    by_cases c2 : b < 0
    · have hd1 : decide (0 ≤ b) = false := decide_eq_false (by omega)
      clear h
      go_enter Try.func34, Try.ntmps34
      go_wp2
      go_ret
      exact ⟨rfl, rfl⟩
    · have hd1 : decide (0 ≤ b) = true := decide_eq_true (by omega)
      by_cases c3 : 1000000 < a
      · have hd2 : decide (a ≤ 1000000) = false := decide_eq_false (by omega)
        clear h
        go_enter Try.func34, Try.ntmps34
        go_wp2
        go_ret
        exact ⟨rfl, rfl⟩
      · have hd2 : decide (a ≤ 1000000) = true := decide_eq_true (by omega)
        have hd3 : decide (b ≤ 1000000) = false := decide_eq_false (by omega)
        clear h
        go_enter Try.func34, Try.ntmps34
        go_wp2
        go_ret
        exact ⟨rfl, rfl⟩
end Go.Proofs.Ytiknocjdogbajaa
