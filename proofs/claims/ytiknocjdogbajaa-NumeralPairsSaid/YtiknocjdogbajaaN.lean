/- Plain mathematics: the window of a numeral (its conjugate), by integers. -/
import Derived.Test.YtiknocjdogbajaaM
namespace Go.Proofs.Ytiknocjdogbajaa

/-- F as an integer -/
def G (n : Nat) : Int := (F n : Int)
theorem G_step (n : Nat) : G (n + 2) = G (n + 1) + G n := by unfold G; rw [F_step]; omega
theorem G_pos (n : Nat) (h : 1 ≤ n) : 1 ≤ G n := by unfold G; have := F_pos n h; omega
theorem G_nonneg (n : Nat) : 0 ≤ G n := by unfold G; omega
theorem G_mono {m n : Nat} (h : m ≤ n) : G m ≤ G n := by unfold G; have := F_mono h; omega

def sgn (k : Nat) : Int := if k % 2 = 0 then 1 else -1
theorem sgn_cases (k : Nat) : sgn k = 1 ∨ sgn k = -1 := by unfold sgn; split <;> simp
theorem sgn_succ (k : Nat) : sgn (k + 1) = - sgn k := by
  unfold sgn
  rcases Nat.mod_two_eq_zero_or_one k with h | h
  · have h' : (k + 1) % 2 = 1 := by omega
    simp [h, h']
  · have h' : (k + 1) % 2 = 0 := by omega
    simp [h, h']
theorem sgn_add (j k : Nat) : sgn (j + k) = sgn j * sgn k := by
  induction k with
  | zero => simp [sgn]
  | succ k ih => rw [← Nat.add_assoc, sgn_succ, ih, sgn_succ, Int.mul_neg]

/-- F(k) F(N-1) + (-1)^k F(N-k) = F(k-1) F(N), with N = k + j, k = i + 1 -/
theorem docagne (i j : Nat) : G i * G (i + 1 + j) - G (i + 1) * G (i + j) = sgn (i + 1) * G j := by
  induction i generalizing j with
  | zero =>
    have : G 0 = 0 := rfl
    have h1 : G 1 = 1 := rfl
    simp [this, h1, sgn]
  | succ i ih =>
    have e := ih (j + 1)
    have h1 : i + 1 + (j + 1) = i + 1 + 1 + j := by omega
    have h2 : i + (j + 1) = i + 1 + j := by omega
    rw [h1, h2] at e
    have s1 : G (i + 1 + 1) = G (i + 1) + G i := G_step i
    have s2 : G (i + 1 + 1 + j) = G (i + 1 + j) + G (i + j) := by
      have := G_step (i + j)
      have a1 : i + j + 2 = i + 1 + 1 + j := by omega
      have a2 : i + j + 1 = i + 1 + j := by omega
      rw [a1, a2] at this; exact this
    have e0 := ih j
    rw [sgn_succ (i + 1), s1]
    rw [s2] at e ⊢
    generalize G (i + 1 + j) = x at *
    generalize G (i + j) = y at *
    generalize G (i + 1) = u at *
    generalize G i = v at *
    generalize G j = z at *
    generalize sgn (i + 1) = s at *
    have : u * (x + y) - (u + v) * x = -(v * x - u * y) := by grind
    rw [this, e0, Int.neg_mul]

/-- The signed sum of a numeral. -/
def S (N : Nat) : List Nat → Int
  | [] => 0
  | a :: l => sgn a * G (N - a) + S N l

def isum (f : Nat → Int) : List Nat → Int
  | [] => 0
  | a :: l => f a + isum f l
theorem isum_vs (d : Int) (l : List Nat) : isum (fun k => (F (k + d).toNat : Int)) l = (vs d l : Int) := by
  induction l with
  | nil => rfl
  | cons a l ih => rw [isum, ih, vs_cons]; omega

/-- a F(N) - n F(N+1) = S, where n is the value and a the shift. -/
theorem S_eq (N : Nat) (l : List Nat) (h : ∀ k ∈ l, 1 ≤ k ∧ k ≤ N) : (vs 1 l : Int) * G N - (vs 0 l : Int) * G (N + 1) = S N l := by
  induction l with
  | nil => simp [vs_nil, S]
  | cons a l ih =>
    have := ih (fun k hk => h k (List.mem_cons_of_mem _ hk))
    obtain ⟨h1, h2⟩ := h a (List.mem_cons_self ..)
    rw [vs_cons, vs_cons, S, ← this]
    obtain ⟨i, rfl⟩ : ∃ i, a = i + 1 := ⟨a - 1, by omega⟩
    obtain ⟨j, rfl⟩ : ∃ j, N = i + 1 + j := ⟨N - (i + 1), by omega⟩
    have e := docagne (i + 1) j
    have e1 : i + 1 + j - (i + 1) = j := by omega
    have e2 : i + 1 + 1 + j = i + 1 + j + 1 := by omega
    rw [e2] at e
    rw [e1]
    have e3 : ((((i + 1 : Nat) : Int) + 1).toNat) = i + 1 + 1 := by omega
    have e4 : ((((i + 1 : Nat) : Int) + 0).toNat) = i + 1 := by omega
    rw [e3, e4]
    have e5 : sgn (i + 1 + 1) = - sgn (i + 1) := sgn_succ _
    rw [e5] at e
    have g1 : (F (i + 1 + 1) : Int) = G (i + 1 + 1) := rfl
    have g2 : (F (i + 1) : Int) = G (i + 1) := rfl
    push_cast
    rw [g1, g2]
    generalize G (i + 1 + 1) = p at *
    generalize G (i + 1) = q at *
    generalize G (i + 1 + j) = r at *
    generalize G (i + 1 + j + 1) = t at *
    generalize G j = z at *
    generalize sgn (i + 1) = s at *
    grind

theorem S_upper (N : Nat) (l : List Nat) (K : Nat) (h : Falls K l) (hN : K + 1 ≤ N) : S N l ≤ G (N - 1) - G (N - K - 1) := by
  induction l generalizing K with
  | nil =>
    have := G_mono (show N - K - 1 ≤ N - 1 by omega)
    simp only [S]; omega
  | cons a l ih =>
    obtain ⟨h2, hk, hl⟩ := h
    have := ih (a - 2) hl (by omega)
    have m := G_mono (show N - K - 1 ≤ N - a - 1 by omega)
    have e : G (N - (a - 2) - 1) = G (N - a) + G (N - a - 1) := by
      have := G_step (N - a - 1)
      rw [show N - a - 1 + 2 = N - (a - 2) - 1 by omega, show N - a - 1 + 1 = N - a by omega] at this
      exact this
    have p := G_nonneg (N - a)
    rw [S]
    rcases sgn_cases a with s | s <;> rw [s] <;> omega
theorem S_lower (N : Nat) (l : List Nat) (K : Nat) (h : Falls K l) (h1 : 1 ≤ K) (hN : K + 1 ≤ N) : - G (N - 2) + G (N - K - 1) ≤ S N l := by
  induction l generalizing K with
  | nil =>
    have := G_mono (show N - K - 1 ≤ N - 2 by omega)
    simp only [S]; omega
  | cons a l ih =>
    obtain ⟨h2, hk, hl⟩ := h
    have m := G_mono (show N - K - 1 ≤ N - a - 1 by omega)
    by_cases ha : a = 2
    · subst ha
      have : l = [] := by
        match l, hl with
        | [], _ => rfl
        | b :: l, h => have := h.1; have := h.2.1; omega
      subst this
      have := G_mono (show N - 2 - 1 ≤ N - 2 by omega)
      have := G_nonneg (N - 2)
      simp only [S, sgn]
      simp
      omega
    · have := ih (a - 2) hl (by omega) (by omega)
      have e : G (N - (a - 2) - 1) = G (N - a) + G (N - a - 1) := by
        have := G_step (N - a - 1)
        rw [show N - a - 1 + 2 = N - (a - 2) - 1 by omega, show N - a - 1 + 1 = N - a by omega] at this
        exact this
      have p := G_nonneg (N - a)
      rw [S]
      rcases sgn_cases a with s | s <;> rw [s] <;> omega

theorem G_of (n : Nat) (v : Nat) (h : (Fp n).1 = v) : G n = v := by unfold G; rw [F_of n v h]
theorem G_68 : G 68 = 72723460248141 := G_of _ _ (by decide +kernel)
theorem G_69 : G 69 = 117669030460994 := G_of _ _ (by decide +kernel)
theorem G_70 : G 70 = 190392490709135 := G_of _ _ (by decide +kernel)
theorem G_71 : G 71 = 308061521170129 := G_of _ _ (by decide +kernel)
theorem G_72 : G 72 = 498454011879264 := G_of _ _ (by decide +kernel)

/-- The window of a numeral: bounds on the shift a of a number n, by two convergents. -/
theorem window (K : Nat) (l : List Nat) (h : Falls K l) (h1 : 1 ≤ K) (hK : K ≤ 66) :
    -72723460248141 < (vs 1 l : Int) * 190392490709135 - (vs 0 l : Int) * 308061521170129 ∧ (vs 1 l : Int) * 190392490709135 - (vs 0 l : Int) * 308061521170129 < 117669030460994 ∧
    -117669030460994 < (vs 1 l : Int) * 308061521170129 - (vs 0 l : Int) * 498454011879264 ∧ (vs 1 l : Int) * 308061521170129 - (vs 0 l : Int) * 498454011879264 < 190392490709135 := by
  have hm : ∀ k ∈ l, 2 ≤ k ∧ k ≤ K := by
    clear h1 hK
    induction l generalizing K with
    | nil => intro a h; cases h
    | cons b l ih =>
      intro a ha
      rcases List.mem_cons.1 ha with rfl | ha
      · exact ⟨h.1, h.2.1⟩
      · have := ih _ h.2.2 a ha
        have := h.2.1
        omega
  have e1 := S_eq 70 l (fun k hk => by have := hm k hk; omega)
  have e2 := S_eq 71 l (fun k hk => by have := hm k hk; omega)
  have u1 := S_upper 70 l K h (by omega)
  have u2 := S_upper 71 l K h (by omega)
  have l1 := S_lower 70 l K h h1 (by omega)
  have l2 := S_lower 71 l K h h1 (by omega)
  have p1 := G_pos (70 - K - 1) (by omega)
  have p2 := G_pos (71 - K - 1) (by omega)
  rw [← e1] at u1 l1
  rw [← e2] at u2 l2
  simp only [Nat.reduceSub, Nat.reduceAdd, G_68, G_69, G_70, G_71, G_72] at u1 u2 l1 l2
  omega

theorem self_lt {a b : Int} (ha : 0 ≤ a) (h : a < b) : a * a < b * b :=
  Int.lt_of_le_of_lt (Int.mul_le_mul_of_nonneg_left (Int.le_of_lt h) ha) (Int.mul_lt_mul_of_pos_right h (by omega))
/-- Squares out of a bound by a convergent of the square root of 5. -/
theorem sq_lt {x n c d : Int} (hx : 0 ≤ x) (hn : 0 ≤ n) (hc : 0 < c) (hd : 0 ≤ d) (h : x * c < n * d) (hcd : d * d ≤ 5 * (c * c)) : x * x < 5 * (n * n) := by
  have h1 : (x * c) * (x * c) < (n * d) * (n * d) := self_lt (Int.mul_nonneg hx (by omega)) h
  have h2 : (n * n) * (d * d) ≤ (n * n) * (5 * (c * c)) := Int.mul_le_mul_of_nonneg_left hcd (Int.mul_nonneg hn hn)
  have h3 : (x * x) * (c * c) < (5 * (n * n)) * (c * c) := by
    have e1 : (x * x) * (c * c) = (x * c) * (x * c) := by grind
    have e2 : (5 * (n * n)) * (c * c) = (n * n) * (5 * (c * c)) := by grind
    have e3 : (n * d) * (n * d) = (n * n) * (d * d) := by grind
    omega
  exact Int.lt_of_mul_lt_mul_right h3 (Int.mul_nonneg (by omega) (by omega))
theorem sq_gt {x n c d : Int} (hn : 0 ≤ n) (hc : 0 < c) (hd : 0 ≤ d) (h : n * d < x * c) (hcd : 5 * (c * c) ≤ d * d) : 5 * (n * n) < x * x := by
  have h1 : (n * d) * (n * d) < (x * c) * (x * c) := self_lt (Int.mul_nonneg hn hd) h
  have h2 : (n * n) * (5 * (c * c)) ≤ (n * n) * (d * d) := Int.mul_le_mul_of_nonneg_left hcd (Int.mul_nonneg hn hn)
  have h3 : (5 * (n * n)) * (c * c) < (x * x) * (c * c) := by
    have e1 : (x * x) * (c * c) = (x * c) * (x * c) := by grind
    have e2 : (5 * (n * n)) * (c * c) = (n * n) * (5 * (c * c)) := by grind
    have e3 : (n * d) * (n * d) = (n * n) * (d * d) := by grind
    omega
  exact Int.lt_of_mul_lt_mul_right h3 (Int.mul_nonneg (by omega) (by omega))

/-- The shift of a numeral differs from the number times the golden ratio by less than 1. -/
theorem golden (K : Nat) (l : List Nat) (h : Falls K l) (h1 : 1 ≤ K) (hK : K ≤ 66) :
    (2 * (vs 1 l : Int) - vs 0 l - 2 < 0 ∨ (2 * (vs 1 l : Int) - vs 0 l - 2) * (2 * (vs 1 l : Int) - vs 0 l - 2) < 5 * ((vs 0 l : Int) * vs 0 l)) ∧
    5 * ((vs 0 l : Int) * vs 0 l) < (2 * (vs 1 l : Int) - vs 0 l + 2) * (2 * (vs 1 l : Int) - vs 0 l + 2) := by
  obtain ⟨w1, w2, w3, w4⟩ := window K l h h1 hK
  generalize (vs 1 l : Nat) = a at *
  generalize (vs 0 l : Nat) = n at *
  constructor
  · by_cases hx : 2 * (a : Int) - n - 2 < 0
    · exact .inl hx
    · refine .inr (sq_lt (c := 308061521170129) (d := 688846502588399) (by omega) (by omega) (by omega) (by omega) (by omega) (by omega))
  · exact sq_gt (c := 190392490709135) (d := 425730551631123) (by omega) (by omega) (by omega) (by omega) (by omega)
end Go.Proofs.Ytiknocjdogbajaa
