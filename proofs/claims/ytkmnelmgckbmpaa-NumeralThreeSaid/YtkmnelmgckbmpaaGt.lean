/- Mathematics: at most three gaps. -/
import Derived.Test.YtkmnelmgckbmpaaGm
namespace Go.Proofs.Ytkmnelmgckbmpaa
theorem mval {p m t : Nat} (hm : 0 < m) {r q : Int} (h : (t : Int) * p = m * q + r) (h0 : 0 ≤ r) (h1 : r < m) : ((t * p % m : Nat) : Int) = r := by
  rw [Int.natCast_emod, Int.natCast_mul, h, Int.mul_add_emod_self_left, Int.emod_eq_of_lt h0 h1]
theorem mdec (p m t : Nat) : ∃ q : Int, (t : Int) * p = m * q + ((t * p % m : Nat) : Int) := by
  refine ⟨((t * p / m : Nat) : Int), ?_⟩
  have := Nat.div_add_mod (t * p) m
  rw [← Int.natCast_mul, ← Int.natCast_mul, ← Int.natCast_add, this]
/-- the least point and the greatest -/
structure AB (p m n a b u v : Nat) : Prop where
  m0 : 0 < m
  u1 : 1 ≤ u
  un : u < n
  v1 : 1 ≤ v
  vn : v < n
  ua : u * p % m = a
  vb : v * p % m = m - b
  bm : b ≤ m
  a1 : 1 ≤ a
  b1 : 1 ≤ b
  all : ∀ t, 1 ≤ t → t < n → a ≤ t * p % m ∧ t * p % m ≤ m - b
theorem AB.ab {p m n a b u v : Nat} (h : AB p m n a b u v) : a + b ≤ m := by
  have := h.all u h.u1 h.un
  have := h.ua
  have := h.bm
  omega
theorem minimum (f : Nat → Nat) : ∀ n, 2 ≤ n → ∃ u, 1 ≤ u ∧ u < n ∧ ∀ t, 1 ≤ t → t < n → f u ≤ f t := by
  intro n
  induction n with
  | zero => intro h; omega
  | succ n ih =>
    intro h
    by_cases e : n = 1
    · subst e
      refine ⟨1, by omega, by omega, fun t h1 h2 => ?_⟩
      obtain rfl : t = 1 := by omega
      exact Nat.le_refl _
    · obtain ⟨u, h1, h2, h3⟩ := ih (by omega)
      by_cases hl : f u ≤ f n
      · exact ⟨u, h1, by omega, fun t g1 g2 => by
          by_cases e : t = n
          · subst e; exact hl
          · exact h3 t g1 (by omega)⟩
      · exact ⟨n, by omega, by omega, fun t g1 g2 => by
          by_cases e : t = n
          · subst e; exact Nat.le_refl _
          · have := h3 t g1 (by omega); omega⟩
theorem AB.ex {p m n : Nat} (hm : 0 < m) (hc : Nat.gcd p m = 1) (hn : n ≤ m) (h2 : 2 ≤ n) : ∃ a b u v, AB p m n a b u v := by
  have hpos : ∀ t, 1 ≤ t → t < n → 1 ≤ t * p % m := fun t h1 h2 => by
    rcases Nat.eq_zero_or_pos (t * p % m) with e | e
    · have := pt_inj hm hc (show t < m by omega) hm (by simpa using e); omega
    · exact e
  have hlt : ∀ t, t * p % m < m := fun t => Nat.mod_lt _ hm
  obtain ⟨u, u1, un, ua⟩ := minimum (fun t => t * p % m) n h2
  obtain ⟨v, v1, vn, vb⟩ := minimum (fun t => m - t * p % m) n h2
  refine ⟨u * p % m, m - v * p % m, u, v, ⟨hm, u1, un, v1, vn, rfl, ?_, by omega, hpos u u1 un, ?_, fun t h1 h2 => ⟨ua t h1 h2, ?_⟩⟩⟩
  · have := hlt v; omega
  · have := hlt v; omega
  · have := vb t h1 h2; have := hlt t; have := hlt v; omega
/-- the next point behind the i-th one is a, b or a + b further on -/
theorem AB.next {p m n a b u v : Nat} (h : AB p m n a b u v) {i : Nat} (hi : i < n) :
    ∃ d, (d = a ∨ d = b ∨ d = a + b) ∧ 1 ≤ d ∧ d ≤ m ∧ isPt p m n ((i * p % m + d) % m) = true ∧ ∀ e, 1 ≤ e → e < d → isPt p m n ((i * p % m + e) % m) = false := by
  have hab := h.ab
  obtain ⟨hm, u1, un, v1, vn, ua, vb, bm, a1, b1, all⟩ := h
  obtain ⟨qi, ei⟩ := mdec p m i
  obtain ⟨qu, eu⟩ := mdec p m u
  obtain ⟨qv, ev⟩ := mdec p m v
  rw [ua] at eu
  rw [vb] at ev
  have hxm : i * p % m < m := Nat.mod_lt _ hm
  generalize hx : i * p % m = x at *
  -- an index that gives x + d is a point
  have hit : ∀ (t d : Nat) (q : Int), t < n → (t : Int) * p = m * q + ((x : Int) + d) → isPt p m n ((x + d) % m) = true := by
    intro t d q ht hq
    rw [isPt_iff]
    refine ⟨t, ht, ?_⟩
    have h1 : ((x + d : Nat) : Int) = m * ((x + d) / m : Nat) + ((x + d) % m : Nat) := by
      rw [← Int.natCast_mul, ← Int.natCast_add, Nat.div_add_mod]
    have h2 := mval (p := p) (t := t) hm (r := ((x + d) % m : Nat)) (q := q + ((x + d) / m : Nat)) (by
      rw [hq, show ((x : Int) + d) = ((x + d : Nat) : Int) by omega]
      conv => lhs; rw [h1]
      grind) (by omega) (by have := Nat.mod_lt (x + d) hm; omega)
    omega
  -- what an index between would be
  have hbt : ∀ e, e < m → isPt p m n ((x + e) % m) = true → ∃ (j : Nat) (q : Int), j < n ∧ (j : Int) * p = m * q + ((x : Int) + e) := by
    intro e he hp
    obtain ⟨j, hj, hje⟩ := isPt_iff.1 hp
    obtain ⟨qj, ej⟩ := mdec p m j
    rw [hje] at ej
    have h1 : ((x + e : Nat) : Int) = m * ((x + e) / m : Nat) + ((x + e) % m : Nat) := by
      rw [← Int.natCast_mul, ← Int.natCast_add, Nat.div_add_mod]
    refine ⟨j, qj - ((x + e) / m : Nat), hj, ?_⟩
    rw [ej, show ((x : Int) + e) = ((x + e : Nat) : Int) by omega]
    conv => rhs; rw [h1]
    grind
  have vb' : ((m - b : Nat) : Int) = m - b := by omega
  rw [vb'] at ev
  -- an index t in reach with a value too near to 0
  have bad : ∀ (t : Nat) (r q : Int), 1 ≤ t → t < n → (t : Int) * p = m * q + r → -(b : Int) < r → r < a → False := by
    intro t r q h1 h2 hq hr1 hr2
    have hall := all t h1 h2
    rcases Int.lt_or_le r 0 with g | g
    · have := mval (p := p) (t := t) hm (r := r + m) (q := q - 1) (by rw [hq]; grind) (by omega) (by omega)
      omega
    · have := mval (p := p) (t := t) hm hq g (by omega)
      omega
  by_cases c1 : i + u < n
  · refine ⟨a, .inl rfl, a1, by omega, hit (i + u) a (qi + qu) c1 (by rw [Int.natCast_add, Int.add_mul, ei, eu]; grind), fun e e1 e2 => ?_⟩
    rw [Bool.eq_false_iff]
    intro hp
    obtain ⟨j, qj, hj, ej⟩ := hbt e (by omega) hp
    rcases Nat.lt_trichotomy i j with g | g | g
    · exact bad (j - i) e (qj - qi) (by omega) (by omega) (by rw [Int.natCast_sub (by omega), Int.sub_mul, ej, ei]; grind) (by omega) (by omega)
    · subst g
      rw [ei] at ej
      have h4 : (m : Int) ∣ e := ⟨qi - qj, by grind⟩
      have := Int.le_of_dvd (by omega) h4
      omega
    · exact bad (i + u - j) ((a : Int) - e) (qi + qu - qj) (by omega) (by omega) (by rw [Int.natCast_sub (by omega), Int.natCast_add, Int.sub_mul, Int.add_mul, ej, ei, eu]; grind) (by omega) (by omega)
  · by_cases c2 : v ≤ i
    · refine ⟨b, .inr (.inl rfl), b1, bm, hit (i - v) b (qi - qv - 1) (by omega) (by rw [Int.natCast_sub c2, Int.sub_mul, ei, ev]; grind), fun e e1 e2 => ?_⟩
      rw [Bool.eq_false_iff]
      intro hp
      obtain ⟨j, qj, hj, ej⟩ := hbt e (by omega) hp
      rcases Nat.lt_trichotomy i j with g | g | g
      · exact bad (j - i + v) ((e : Int) - b) (qj - qi + qv + 1) (by omega) (by omega) (by rw [Int.natCast_add, Int.natCast_sub (by omega), Int.add_mul, Int.sub_mul, ej, ei, ev]; grind) (by omega) (by omega)
      · subst g
        rw [ei] at ej
        have h4 : (m : Int) ∣ e := ⟨qi - qj, by grind⟩
        have := Int.le_of_dvd (by omega) h4
        omega
      · exact bad (i - j) (-(e : Int)) (qi - qj) (by omega) (by omega) (by rw [Int.natCast_sub (by omega), Int.sub_mul, ej, ei]; grind) (by omega) (by omega)
    · refine ⟨a + b, .inr (.inr rfl), by omega, hab, hit (i + u - v) (a + b) (qi + qu - qv - 1) (by omega) (by rw [Int.natCast_sub (by omega), Int.natCast_add, Int.sub_mul, Int.add_mul, ei, eu, ev]; grind), fun e e1 e2 => ?_⟩
      rw [Bool.eq_false_iff]
      intro hp
      obtain ⟨j, qj, hj, ej⟩ := hbt e (by omega) hp
      rcases Nat.lt_trichotomy i j with g | g | g
      · exact bad (u - (j - i)) ((a : Int) - e) (qu - qj + qi) (by omega) (by omega) (by rw [Int.natCast_sub (by omega), Int.natCast_sub (by omega), Int.sub_mul, Int.sub_mul, ej, ei, eu]; grind) (by omega) (by omega)
      · subst g
        rw [ei] at ej
        have h4 : (m : Int) ∣ e := ⟨qi - qj, by grind⟩
        have := Int.le_of_dvd (by omega) h4
        omega
      · exact bad (v - (i - j)) ((e : Int) - b) (qv - qi + qj + 1) (by omega) (by omega) (by rw [Int.natCast_sub (by omega), Int.natCast_sub (by omega), Int.sub_mul, Int.sub_mul, ej, ei, ev]; grind) (by omega) (by omega)
/-- each gap is a, b or a + b -/
theorem ab_gap {p m n a b u v : Nat} (h : AB p m n a b u v) (k : Nat) (hk : k < (pS p m n).length) :
    gap m (pS p m n) k = a ∨ gap m (pS p m n) k = b ∨ gap m (pS p m n) k = a + b := by
  obtain ⟨g1, g2, g3, g4, g5, g6, g7⟩ := gap_next k hk
  obtain ⟨i, hi, hx⟩ := isPt_iff.1 g4
  obtain ⟨d, hd, d1, dm, hp, hno⟩ := h.next hi
  rw [hx] at hp hno
  generalize (pS p m n).getD k 0 = x at *
  generalize gap m (pS p m n) k = g at *
  have hn0 : isPt p m n 0 = true := isPt_iff.2 ⟨0, by omega, by simp⟩
  have hpg : isPt p m n ((x + g) % m) = true := by
    by_cases e : k + 1 < (pS p m n).length
    · have h1 := g5 e
      have h2 := mem_pS.1 (getD_mem _ _ e)
      rw [h1, Nat.mod_eq_of_lt h2.1]; exact h2.2
    · rw [g6 e, Nat.mod_self]; exact hn0
  have : g = d := by
    rcases Nat.lt_trichotomy g d with e | e | e
    · have := hno g g1 e; rw [hpg] at this; cases this
    · exact e
    · have h1 := g7 (x + d) (by omega) (by omega)
      rw [Nat.mod_eq_of_lt (by omega), h1] at hp; cases hp
  rw [this]; exact hd
end Go.Proofs.Ytkmnelmgckbmpaa

