/- The walk of NumeralGolden. -/
import Derived.Test.YtiknocjdogbajaaB
import Derived.Test.YtiknocjdogbajaaN
namespace Go.Proofs.Ytiknocjdogbajaa
open Go.RowKit

/-- the indices moved up by one -/
def up (l : List Nat) : List Nat := l.map (· + 1)
theorem up_falls {K : Nat} {l : List Nat} (h : Falls K l) : Falls (K + 1) (up l) := by
  induction l generalizing K with
  | nil => trivial
  | cons a l ih =>
    obtain ⟨h1, h2, h3⟩ := h
    refine ⟨by show 2 ≤ a + 1; omega, by show a + 1 ≤ K + 1; omega, ?_⟩
    have := ih h3
    exact this.mono (by show a - 2 + 1 ≤ a + 1 - 2; omega)
theorem vs_up (d : Int) (l : List Nat) : vs d (up l) = vs (d + 1) l := by
  induction l with
  | nil => rfl
  | cons a l ih =>
    have e : up (a :: l) = (a + 1) :: up l := rfl
    rw [e, vs_cons, vs_cons, ih]
    congr 2
    omega
theorem vs_two (l : List Nat) : vs 2 l = vs 1 l + vs 0 l := by
  induction l with
  | nil => rfl
  | cons a l ih =>
    rw [vs_cons, vs_cons, vs_cons, ih]
    have e2 : ((a : Int) + 2).toNat = a + 2 := by omega
    have e1 : ((a : Int) + 1).toNat = a + 1 := by omega
    have e0 : ((a : Int) + 0).toNat = a := by omega
    rw [e2, e1, e0, F_step]
    omega
theorem falls_small {K k : Nat} {l : List Nat} (h : Falls K l) (hs : vsum F l < F (k + 1)) : Falls k l := by
  match l, h with
  | [], _ => trivial
  | a :: l, h =>
    refine ⟨h.1, ?_, h.2.2⟩
    rcases Nat.lt_or_ge k a with hk | hk
    · have := F_mono (show k + 1 ≤ a by omega)
      rw [vsum_cons] at hs
      omega
    · exact hk
theorem zeck_sh (n : Nat) (hn : n ≤ 1000000000000) (hs : sh n ≤ 1000000000000) : zeck (sh n) = up (zeck n) := by
  have h := up_falls (zeck_falls n hn)
  have e : vsum F (up (zeck n)) = sh n := by
    have := vs_up 0 (zeck n)
    rw [vs_zero] at this
    exact this
  have h2 := falls_small (k := 60) h (by rw [e, F_61]; omega)
  have := zk_of_falls 60 _ h2
  rw [e] at this
  exact this
theorem sh_sh (n : Nat) (hn : n ≤ 1000000000000) (hs : sh n ≤ 1000000000000) : sh (sh n) = sh n + n := by
  have h0 : vs 0 (zeck n) = n := by rw [vs_zero]; exact zeck_sum n hn
  have : sh (sh n) = vs 1 (zeck (sh n)) := rfl
  rw [this, zeck_sh n hn hs, vs_up]
  show vs 2 (zeck n) = vs 1 (zeck n) + n
  rw [vs_two, h0]
theorem sh_golden (n : Nat) (hn : n ≤ 1000000000000) :
    (2 * (sh n : Int) - n - 2 < 0 ∨ (2 * (sh n : Int) - n - 2) * (2 * (sh n : Int) - n - 2) < 5 * ((n : Int) * n)) ∧
    5 * ((n : Int) * n) < (2 * (sh n : Int) - n + 2) * (2 * (sh n : Int) - n + 2) := by
  have h0 : vs 0 (zeck n) = n := by rw [vs_zero]; exact zeck_sum n hn
  have := golden 60 (zeck n) (zeck_falls n hn) (by omega) (by omega)
  rw [h0] at this
  exact this
theorem sh_le (n : Nat) (hn : n ≤ 1000000000000) : sh n ≤ 2 * n := by
  have := vs_le_double 1 (zeck n) (by omega) (fun k hk => (falls_mem (zeck_falls n hn) k hk).1)
  rw [zeck_sum n hn] at this
  exact this


theorem Shift_val (n m : Nat) (hn : n ≤ 1000000000000) (h : sh n = m) (hm : m ≤ 1000000000000) (w : World) :
    Calls Try.prog 15 #[.int .i64 n] w fun e w' => e = .returned (.tuple #[.int .i64 m, .int .i64 0]) ∧ Below w.heap.size w w' := by
  subst h
  exact Shift_yes n hn hm w

set_option maxHeartbeats 1000000 in
/-- a number above 400000000, the second shift fits -/
theorem golden_large (w : World) (n : Nat) (hn : n ≤ 1000000000000) (hs : sh n ≤ 1000000000000) (hb : sh n + n ≤ 1000000000000) (hbig : 400000000 < n) :
    Calls Try.prog 3 #[.int .i64 n] w fun e w' => e = .returned (.bool true) ∧ Below w.heap.size w w' := by
  have HS := Lib.hid (sh_sh n hn hs)
  go_enter Try.func3, Try.ntmps3
  go_wp2_with (first
    | (go_at_call 15; first | ((with_reducible refine (Shift_yes n hn hs _).mono ?_); rintro e w1 ⟨rfl, hb1⟩) | ((with_reducible refine (Shift_val (sh n) (sh n + n) hs HS.out hb _).mono ?_); rintro e w2 ⟨rfl, hb2⟩))
    | (go_at_call 16; refine (awake_any _).mono ?_; rintro e w3 ⟨rfl, hb3⟩))
  go_ret
  exact ⟨rfl, (hb1.trans (hb2.mono hb1.size)).trans (hb3.mono (Nat.le_trans hb1.size hb2.size))⟩
set_option maxHeartbeats 1000000 in
/-- the second shift is too large -/
theorem golden_size (w : World) (n : Nat) (hn : n ≤ 1000000000000) (hs : sh n ≤ 1000000000000) (hb : 1000000000000 < sh n + n) :
    Calls Try.prog 3 #[.int .i64 n] w fun e w' => e = .returned (.bool true) ∧ Below w.heap.size w w' := by
  have HS := Lib.hid (sh_sh n hn hs)
  have hle := sh_le n hn
  go_enter Try.func3, Try.ntmps3
  go_wp2_with (first
    | (go_at_call 15; first | ((with_reducible refine (Shift_yes n hn hs _).mono ?_); rintro e w1 ⟨rfl, hb1⟩) | ((with_reducible refine (Shift_big (sh n) hs (by rw [HS.out]; exact hb) _).mono ?_); rintro e w2 ⟨rfl, hb2⟩))
    | (go_at_call 16; refine (awake_any _).mono ?_; rintro e w3 ⟨rfl, hb3⟩))
  go_ret
  exact ⟨rfl, (hb1.trans (hb2.mono hb1.size)).trans (hb3.mono (Nat.le_trans hb1.size hb2.size))⟩
theorem sq_bound {x : Int} (h : -4000000000 ≤ x) (h1 : x ≤ 3000000000) (h2 : -3000000000 ≤ x) : 0 ≤ x * x ∧ x * x ≤ 9000000000000000000 := by
  constructor
  · rcases Int.le_total 0 x with h | h
    · exact Int.mul_nonneg h h
    · have := Int.mul_nonneg (a := -x) (b := -x) (by omega) (by omega)
      rwa [Int.neg_mul_neg] at this
  · have h3 : (3000000000 - x) * (3000000000 + x) ≥ 0 := Int.mul_nonneg (by omega) (by omega)
    have e : (3000000000 - x) * (3000000000 + x) = 9000000000000000000 - x * x := by grind
    omega
set_option maxHeartbeats 1000000 in
/-- a number up to 400000000 -/
theorem golden_small (w : World) (n : Nat) (hn : n ≤ 400000000) :
    Calls Try.prog 3 #[.int .i64 n] w fun e w' => e = .returned (.bool true) ∧ Below w.heap.size w w' := by
  have hle := sh_le n (by omega)
  have hs : sh n ≤ 1000000000000 := by omega
  have hb : sh n + n ≤ 1000000000000 := by omega
  have hn' : n ≤ 1000000000000 := by omega
  have HS := Lib.hid (sh_sh n hn' hs)
  obtain ⟨g1, g2⟩ := sh_golden n hn'
  have b1 := sq_bound (x := 2 * (sh n : Int) - n - 2) (by omega) (by omega) (by omega)
  have b2 := sq_bound (x := 2 * (sh n : Int) - n + 2) (by omega) (by omega) (by omega)
  have b3 := sq_bound (x := (n : Int)) (by omega) (by omega) (by omega)
  have e : 5 * ((n : Int) * n) = 5 * (n : Int) * n := by grind
  rw [e] at g1 g2
  have b4 : (n : Int) * n ≤ 400000000 * 400000000 := Int.mul_le_mul (by omega) (by omega) (by omega) (by omega)
  have b5 : 5 * (n : Int) * n ≤ 800000000000000000 := by omega
  have b6 : 0 ≤ 5 * (n : Int) * n := by omega
  obtain ⟨b11, b12⟩ := b1
  obtain ⟨b21, b22⟩ := b2
  clear b3 b4 e
  by_cases hl : 2 * (sh n : Int) - n - 2 < 0
  · clear g1
    go_enter Try.func3, Try.ntmps3
    go_wp2_with (first
      | (go_at_call 15; first | ((with_reducible refine (Shift_yes n hn' hs _).mono ?_); rintro e w1 ⟨rfl, hb1⟩) | ((with_reducible refine (Shift_val (sh n) (sh n + n) hs HS.out hb _).mono ?_); rintro e w2 ⟨rfl, hb2⟩))
      | (go_at_call 16; refine (awake_any _).mono ?_; rintro e w3 ⟨rfl, hb3⟩))
    go_ret
    exact ⟨rfl, (hb1.trans (hb2.mono hb1.size)).trans (hb3.mono (Nat.le_trans hb1.size hb2.size))⟩
  · have g3 := g1.resolve_left hl
    clear g1
    go_enter Try.func3, Try.ntmps3
    go_wp2_with (first
      | (go_at_call 15; first | ((with_reducible refine (Shift_yes n hn' hs _).mono ?_); rintro e w1 ⟨rfl, hb1⟩) | ((with_reducible refine (Shift_val (sh n) (sh n + n) hs HS.out hb _).mono ?_); rintro e w2 ⟨rfl, hb2⟩))
      | (go_at_call 16; refine (awake_any _).mono ?_; rintro e w3 ⟨rfl, hb3⟩))
    go_ret
    exact ⟨rfl, (hb1.trans (hb2.mono hb1.size)).trans (hb3.mono (Nat.le_trans hb1.size hb2.size))⟩
set_option maxHeartbeats 1000000 in
theorem golden_first (w : World) (n : Nat) (hn : n ≤ 1000000000000) (hs : 1000000000000 < sh n) :
    Calls Try.prog 3 #[.int .i64 n] w fun e w' => e = .returned (.bool true) ∧ Below w.heap.size w w' := by
  go_enter Try.func3, Try.ntmps3
  go_wp2_with (first
    | (go_at_call 15; refine (Shift_big n hn hs _).mono ?_; rintro e w1 ⟨rfl, hb1⟩)
    | (go_at_call 16; refine (awake_any _).mono ?_; rintro e w2 ⟨rfl, hb2⟩))
  go_ret
  exact ⟨rfl, hb1.trans (hb2.mono hb1.size)⟩
set_option maxHeartbeats 1000000 in
theorem golden_out (w : World) (n : Int) (hn : n < 0 ∨ 1000000000000 < n) :
    Calls Try.prog 3 #[.int .i64 n] w fun e w' => e = .returned (.bool true) ∧ Below w.heap.size w w' := by
  have H := Lib.hid hn; clear hn
  go_enter Try.func3, Try.ntmps3
  go_wp2_with (first
    | (go_at_call 15; refine (Shift_no n H.out _).mono ?_; rintro e w1 ⟨rfl, hb1⟩)
    | (go_at_call 16; refine (awake_any _).mono ?_; rintro e w2 ⟨rfl, hb2⟩))
  go_ret
  exact ⟨rfl, hb1.trans (hb2.mono hb1.size)⟩
theorem numeralGolden_walk (w : World) (a0 : Int) (_hw : -9223372036854775808 ≤ a0 ∧ a0 ≤ 9223372036854775807) :
    Calls Try.prog 3 #[.int .i64 a0] w fun e w' => e = .returned (.bool true) ∧ Below w.heap.size w w' := by
  by_cases h0 : 0 ≤ a0 ∧ a0 ≤ 1000000000000
  · obtain ⟨n, rfl⟩ := Int.eq_ofNat_of_zero_le h0.1
    have hn : n ≤ 1000000000000 := by omega
    by_cases hbig : n ≤ 400000000
    · exact golden_small w n hbig
    · by_cases hs : sh n ≤ 1000000000000
      · by_cases hb : sh n + n ≤ 1000000000000
        · exact golden_large w n hn hs hb (by omega)
        · exact golden_size w n hn hs (by omega)
      · exact golden_first w n hn (by omega)
  · exact golden_out w a0 (by omega)
end Go.Proofs.Ytiknocjdogbajaa
