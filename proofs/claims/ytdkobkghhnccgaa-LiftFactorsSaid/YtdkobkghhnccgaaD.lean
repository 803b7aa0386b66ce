/- Plain mathematics of digits along a prime: the sequence of rests, and when it comes again. -/
import Derived.Test.YtdkobkghhnccgaaM
namespace Go.Proofs.Ytdkobkghhnccgaa
set_option linter.unusedVariables false
/-- the first digit of a / b -/
def dg (a b : Int) (p : Nat) : Nat := ((List.range p).find? fun d : Nat => (a - d * b) % p == 0).getD 0
theorem dg_spec {p : Nat} (hp : isP p) (a b : Int) (hb : b % p ≠ 0) : dg a b p < p ∧ (a - dg a b p * b) % p = 0 ∧ ∀ d : Nat, d < dg a b p → (a - d * b) % p ≠ 0 := by
  have h2 := hp.pos
  have key : ∀ t : Nat, (a - t * b) % p = ((((a % p).toNat + t * ((-b) % p).toNat) % p : Nat) : Int) := by
    intro t
    have ha := Int.toNat_of_nonneg (Int.emod_nonneg a (show (p : Int) ≠ 0 by omega))
    have hb := Int.toNat_of_nonneg (Int.emod_nonneg (-b) (show (p : Int) ≠ 0 by omega))
    rw [Int.natCast_emod, Int.natCast_add, Int.natCast_mul, ha, hb, show a - t * b = a + t * (-b) by rw [Int.mul_neg]; omega, Int.add_emod, Int.mul_emod]
    conv => rhs; rw [Int.add_emod, Int.emod_emod, Int.mul_emod, Int.emod_emod]
  have hl1 := Int.emod_lt_of_pos a (show (0 : Int) < p by omega)
  have hl2 := Int.emod_lt_of_pos (-b) (show (0 : Int) < p by omega)
  have hg1 := Int.emod_nonneg a (show (p : Int) ≠ 0 by omega)
  have hg2 := Int.emod_nonneg (-b) (show (p : Int) ≠ 0 by omega)
  have hb2 : (-b) % (p : Int) ≠ 0 := fun h => hb (Int.emod_eq_zero_of_dvd ((Int.dvd_neg).1 (Int.dvd_of_emod_eq_zero h)))
  obtain ⟨t, h3, h4, h5⟩ := hp.unit ((-b) % p).toNat (a % p).toNat (by omega) (by omega) (by omega)
  have hf : (List.range p).find? (fun d : Nat => (a - d * b) % p == 0) = some t := by
    rw [List.find?_range_eq_some]
    refine ⟨by rw [beq_iff_eq, key, h4]; rfl, List.mem_range.2 h3, fun j hj => ?_⟩
    simp only [Bool.not_eq_true', beq_eq_false_iff_ne]
    intro h
    rw [key] at h
    have := h5 j (by omega) (by omega)
    omega
  have e : dg a b p = t := by unfold dg; rw [hf]; rfl
  rw [e]
  refine ⟨h3, by rw [key, h4]; rfl, fun d hd h => ?_⟩
  rw [key] at h
  have := h5 d (by omega) (by omega)
  omega
theorem dg_eq {p : Nat} (hp : isP p) (a b : Int) (hb : b % p ≠ 0) (d : Nat) (h1 : d < p) (h2 : (a - d * b) % p = 0) (h3 : ∀ e : Nat, e < d → (a - e * b) % p ≠ 0) : d = dg a b p := by
  obtain ⟨g1, g2, g3⟩ := dg_spec hp a b hb
  rcases Nat.lt_trichotomy d (dg a b p) with h | h | h
  · exact absurd h2 (g3 d h)
  · exact h
  · exact absurd g2 (h3 _ h)
/-- what is left -/
def nx (a b : Int) (p : Nat) : Int := (a - dg a b p * b) / p
theorem nx_mul {p : Nat} (hp : isP p) (a b : Int) (hb : b % p ≠ 0) : p * nx a b p = a - dg a b p * b := by
  have h := (dg_spec hp a b hb).2.1
  exact Int.mul_ediv_cancel' (Int.dvd_of_emod_eq_zero h)
theorem db_bd {p : Nat} (d : Nat) (b B : Int) (hd : d < p) (h0 : 1 ≤ b) (_ : b ≤ B) : 0 ≤ (d : Int) * b ∧ (d : Int) * b ≤ ((p : Int) - 1) * B := by
  constructor
  · exact Int.mul_nonneg (by omega) (by omega)
  · have h1 : (d : Int) * b ≤ ((p : Int) - 1) * b := Int.mul_le_mul_of_nonneg_right (by omega) (by omega)
    have h2 : ((p : Int) - 1) * b ≤ ((p : Int) - 1) * B := Int.mul_le_mul_of_nonneg_left (by omega) (by omega)
    omega
theorem nx_bd {p : Nat} (hp : isP p) (a b : Int) (hb : b % p ≠ 0) (h0 : 1 ≤ b) (h1 : b ≤ 1000) (h2 : -1000 ≤ a) (h3 : a ≤ 1000) : -1000 ≤ nx a b p ∧ nx a b p ≤ 1000 := by
  have e := nx_mul hp a b hb
  have d := (dg_spec hp a b hb).1
  have bd := db_bd (dg a b p) b 1000 d h0 h1
  generalize (dg a b p : Int) * b = y at *
  generalize nx a b p = x at *
  rcases hp with h | h | h | h | h | h <;> subst h <;> omega
/-- the rests -/
def rs (a b : Int) (p : Nat) : Nat → Int
  | 0 => a
  | n + 1 => nx (rs a b p n) b p
theorem rs_bd {p : Nat} (hp : isP p) (a b : Int) (hb : b % p ≠ 0) (h0 : 1 ≤ b) (h1 : b ≤ 1000) (h2 : -1000 ≤ a) (h3 : a ≤ 1000) : ∀ n, -1000 ≤ rs a b p n ∧ rs a b p n ≤ 1000 := by
  intro n
  induction n with
  | zero => exact ⟨h2, h3⟩
  | succ n ih => exact nx_bd hp _ b hb h0 h1 ih.1 ih.2
/-- different rests are not many -/
def AllNew (x : Nat → Int) (n : Nat) : Prop := ∀ i j, i < j → j < n → x i ≠ x j
theorem allNew_le {x : Nat → Int} {n : Nat} (h : AllNew x n) (lo : Int) (N : Nat) (hb : ∀ i, i < n → lo ≤ x i ∧ x i < lo + N) : n ≤ N := by
  have hn : ((List.range n).map x).Nodup := by
    unfold List.Nodup
    rw [List.pairwise_map]
    refine List.Pairwise.imp_of_mem ?_ List.pairwise_lt_range
    intro i j _ hj hij
    exact h i j hij (List.mem_range.1 hj)
  have := hn.length_le_of_subset (l₂ := (List.range N).map fun k : Nat => lo + k) (fun y hy => by
    rw [List.mem_map] at hy ⊢
    obtain ⟨i, hi, rfl⟩ := hy
    rw [List.mem_range] at hi
    have := hb i hi
    exact ⟨(x i - lo).toNat, List.mem_range.2 (by omega), by omega⟩)
  simpa using this
/-- the rest at n is that at s, and none before came twice -/
def IsRep (x : Nat → Int) (s n : Nat) : Prop := s < n ∧ x s = x n ∧ AllNew x n
theorem IsRep.eq {x : Nat → Int} {s n s' n' : Nat} (h : IsRep x s n) (h' : IsRep x s' n') : s = s' ∧ n = n' := by
  have e : n = n' := by
    rcases Nat.lt_trichotomy n n' with g | g | g
    · exact absurd h.2.1 (h'.2.2 s n h.1 g)
    · exact g
    · exact absurd h'.2.1 (h.2.2 s' n' h'.1 g)
  subst e
  refine ⟨?_, rfl⟩
  rcases Nat.lt_trichotomy s s' with g | g | g
  · exact absurd (h.2.1.trans h'.2.1.symm) (h.2.2 s s' g h'.1)
  · exact g
  · exact absurd (h'.2.1.trans h.2.1.symm) (h.2.2 s' s g h.1)
theorem allNew_succ {x : Nat → Int} {n : Nat} (h : AllNew x n) (h2 : ∀ i, i < n → x i ≠ x n) : AllNew x (n + 1) := by
  intro i j hij hj
  by_cases e : j = n
  · subst e; exact h2 i hij
  · exact h i j hij (by omega)
/-- from where on they come again -/
theorem rep_shift (a b : Int) (p s n : Nat) (h : IsRep (rs a b p) s n) : ∀ i, s ≤ i → rs a b p (i + (n - s)) = rs a b p i := by
  intro i hi
  obtain ⟨k, rfl⟩ : ∃ k, i = s + k := ⟨i - s, by omega⟩
  have hs := h.1
  induction k with
  | zero => rw [Nat.add_zero, show s + (n - s) = n by omega]; exact h.2.1.symm
  | succ k ih =>
    rw [show s + (k + 1) + (n - s) = (s + k + (n - s)) + 1 by omega, rs, ih (by omega), show s + (k + 1) = s + k + 1 by omega, rs]
theorem rep_mult (a b : Int) (p s n : Nat) (h : IsRep (rs a b p) s n) (i : Nat) (hi : s ≤ i) : ∀ k, rs a b p (i + k * (n - s)) = rs a b p i := by
  intro k
  induction k with
  | zero => simp
  | succ k ih => rw [Nat.succ_mul, ← Nat.add_assoc, rep_shift a b p s n h _ (by omega), ih]
/-- a number of steps that brings the rest at s again is a multiple of the period -/
theorem rep_dvd (a b : Int) (p s n : Nat) (h : IsRep (rs a b p) s n) (m : Nat) (hm : rs a b p (s + m) = rs a b p s) : m % (n - s) = 0 := by
  have hs := h.1
  have h0 : 0 < n - s := by omega
  have e := Nat.div_add_mod m (n - s)
  have hl := Nat.mod_lt m h0
  generalize hr : m % (n - s) = r at *
  have h1 : rs a b p (s + r) = rs a b p s := by
    have := rep_mult a b p s n h (s + r) (by omega) (m / (n - s))
    rw [show s + r + m / (n - s) * (n - s) = s + m by rw [Nat.mul_comm (m / (n - s)) (n - s)]; omega] at this
    rw [← this]; exact hm
  rcases Nat.eq_zero_or_pos r with g | g
  · exact g
  · exact absurd h1.symm (h.2.2 s (s + r) (by omega) (by omega))
theorem dg_uniq {p : Nat} (hp : isP p) (a b : Int) (hb : b % p ≠ 0) (d : Nat) (h1 : d < p) (h2 : (a - d * b) % p = 0) : d = dg a b p := by
  have h0 := hp.pos
  obtain ⟨g1, g2, g3⟩ := dg_spec hp a b hb
  rcases Nat.lt_trichotomy d (dg a b p) with h | h | h
  · exact absurd h2 (g3 d h)
  · exact h
  · exfalso
    generalize dg a b p = g at *
    obtain ⟨u, hu⟩ := Int.dvd_of_emod_eq_zero h2
    obtain ⟨v, hv⟩ := Int.dvd_of_emod_eq_zero g2
    have e : ((d - g : Nat) : Int) * b = p * (v - u) := by
      rw [Int.natCast_sub (by omega), Int.sub_mul, Int.mul_sub]; omega
    have hd : (((d - g : Nat) : Int) * b) % p = 0 := Int.emod_eq_zero_of_dvd ⟨_, e⟩
    have hn := Int.emod_nonneg b (show (p : Int) ≠ 0 by omega)
    have hl := Int.emod_lt_of_pos b (show (0 : Int) < p by omega)
    obtain ⟨t, _, _, t3⟩ := hp.unit (b % p).toNat 0 (by omega) (by omega) (by omega)
    have z := t3 0 (by omega) (by simp)
    have w := t3 (d - g) (by omega) (by
      have e2 : (((0 + (d - g) * (b % p).toNat) % p : Nat) : Int) = ((d - g : Nat) : Int) * b % p := by
        rw [Nat.zero_add, Int.natCast_emod, Int.natCast_mul, Int.toNat_of_nonneg hn, Int.mul_emod, Int.emod_emod, ← Int.mul_emod]
      rw [hd] at e2
      omega)
    omega
theorem dg_zero {p : Nat} (hp : isP p) (b : Int) (hb : b % p ≠ 0) : dg 0 b p = 0 := (dg_uniq hp 0 b hb 0 (by have := hp.pos; omega) (by simp)).symm
theorem nx_zero {p : Nat} (hp : isP p) (b : Int) (hb : b % p ≠ 0) : nx 0 b p = 0 := by unfold nx; rw [dg_zero hp b hb]; simp
theorem dg_neg {p : Nat} (hp : isP p) (b : Int) (hb : b % p ≠ 0) : dg (-b) b p = p - 1 := by
  have h0 := hp.pos
  refine (dg_uniq hp (-b) b hb (p - 1) (by omega) ?_).symm
  rw [Int.natCast_sub (by omega), Int.sub_mul]
  have : -b - ((p : Int) * b - ((1 : Nat) : Int) * b) = p * (-b) := by rw [Int.mul_neg]; simp; omega
  rw [this]
  simp
theorem nx_neg {p : Nat} (hp : isP p) (b : Int) (hb : b % p ≠ 0) : nx (-b) b p = -b := by
  have h0 := hp.pos
  have e := nx_mul hp (-b) b hb
  rw [dg_neg hp b hb, Int.natCast_sub (by omega), Int.sub_mul] at e
  have : (p : Int) * nx (-b) b p = p * (-b) := by rw [e, Int.mul_neg]; simp; omega
  exact Int.eq_of_mul_eq_mul_left (by omega) this
/-- one step downward, and upward -/
theorem nx_down {p : Nat} (hp : isP p) (a b : Int) (hb : b % p ≠ 0) (h0 : 1 ≤ b) : (0 < a → nx a b p < a) ∧ (a ≤ 0 → nx a b p ≤ 0) ∧ (a < -b → a < nx a b p) ∧ (-b ≤ a → -b ≤ nx a b p) ∧ 2 * nx a b p ≤ a ∨ (a ≤ 0 ∧ nx a b p ≤ 0 ∧ (a < -b → a < nx a b p) ∧ (-b ≤ a → -b ≤ nx a b p)) := by
  have e := nx_mul hp a b hb
  have d := (dg_spec hp a b hb).1
  have bd := db_bd (dg a b p) b b d h0 (Int.le_refl _)
  generalize (dg a b p : Int) * b = y at *
  generalize nx a b p = x at *
  rcases hp with h | h | h | h | h | h <;> subst h <;> omega
theorem rs_down {p : Nat} (hp : isP p) (a b : Int) (hb : b % p ≠ 0) (h0 : 1 ≤ b) (i : Nat) : ∀ k : Nat, (rs a b p (i + k) ≤ 0 ∨ rs a b p (i + k) ≤ rs a b p i - k) ∧ (-b ≤ rs a b p (i + k) ∨ rs a b p i + k ≤ rs a b p (i + k)) := by
  intro k
  induction k with
  | zero => exact ⟨.inr (by simp), .inr (by simp)⟩
  | succ k ih =>
    have := nx_down hp (rs a b p (i + k)) b hb h0
    rw [show i + (k + 1) = i + k + 1 by omega, rs]
    omega
theorem rep_range {p : Nat} (hp : isP p) (a b : Int) (hb : b % p ≠ 0) (h0 : 1 ≤ b) (s n : Nat) (h : IsRep (rs a b p) s n) (i : Nat) (hi : s ≤ i) : -b ≤ rs a b p i ∧ rs a b p i ≤ 0 := by
  have e := rep_shift a b p s n h i hi
  have d := rs_down hp a b hb h0 i (n - s)
  have hs := h.1
  rw [e] at d
  omega
theorem rs_const (a b : Int) (p i : Nat) (c : Int) (hc : nx c b p = c) (hi : rs a b p i = c) : ∀ k, rs a b p (i + k) = c := by
  intro k
  induction k with
  | zero => exact hi
  | succ k ih => rw [show i + (k + 1) = i + k + 1 by omega, rs, ih, hc]
theorem rep_one (a b : Int) (p s n i : Nat) (h : IsRep (rs a b p) s n) (_ : s ≤ i) (c : Int) (hc : nx c b p = c) (hic : rs a b p i = c) : n = s + 1 := by
  have hs := h.1
  rcases Nat.lt_or_ge (s + 1) n with g | g
  · exfalso
    have e1 := rep_mult a b p s n h s (Nat.le_refl _) i
    have h1 : i ≤ s + i * (n - s) := by
      have := Nat.mul_le_mul_left i (show 1 ≤ n - s by omega)
      omega
    have c1 := rs_const a b p i c hc hic (s + i * (n - s) - i)
    have c2 := rs_const a b p i c hc hic (s + i * (n - s) - i + 1)
    rw [show i + (s + i * (n - s) - i) = s + i * (n - s) by omega] at c1
    rw [show i + (s + i * (n - s) - i + 1) = s + i * (n - s) + 1 by omega, rs, c1, hc] at c2
    have e2 : rs a b p (s + 1) = c := by rw [rs, ← e1, c1, hc]
    exact h.2.2 s (s + 1) (by omega) g (by rw [← e1, c1, e2])
  · omega
theorem rep_len {p : Nat} (hp : isP p) (a b : Int) (hb : b % p ≠ 0) (h0 : 1 ≤ b) (h1 : b ≤ 1000) (s n : Nat) (h : IsRep (rs a b p) s n) : n - s ≤ 1000 := by
  have hs := h.1
  rcases Nat.lt_or_ge 1 (n - s) with g | g
  · have hz : ∀ i, s ≤ i → rs a b p i ≠ 0 := fun i hi e => by
      have := rep_one a b p s n i h hi 0 (nx_zero hp b hb) e
      omega
    have := allNew_le (x := fun i => rs a b p (s + i)) (n := n - s) (fun i j hij hj => h.2.2 (s + i) (s + j) (by omega) (by omega)) (-b) b.toNat (fun i hi => by
      have r := rep_range hp a b hb h0 s n h (s + i) (by omega)
      have z := hz (s + i) (by omega)
      omega)
    omega
  · omega
theorem rep_n {p : Nat} (hp : isP p) (a b : Int) (hb : b % p ≠ 0) (h0 : 1 ≤ b) (h1 : b ≤ 1000) (h2 : -1000 ≤ a) (h3 : a ≤ 1000) (n : Nat) (h : AllNew (rs a b p) n) : n ≤ 2001 :=
  allNew_le h (-1000) 2001 (fun i _ => by have := rs_bd hp a b hb h0 h1 h2 h3 i; omega)
theorem rs_pow {p : Nat} (hp : isP p) (a b : Int) (hb : b % p ≠ 0) (i : Nat) : ∀ k, b ∣ (pn p k : Nat) * rs a b p (i + k) - rs a b p i := by
  intro k
  induction k with
  | zero => exact ⟨0, by simp [pn]⟩
  | succ k ih =>
    obtain ⟨c, hc⟩ := ih
    have e := nx_mul hp (rs a b p (i + k)) b hb
    refine ⟨c - (pn p k : Nat) * (dg (rs a b p (i + k)) b p : Nat), ?_⟩
    rw [show i + (k + 1) = i + k + 1 by omega, rs, pn, Int.natCast_mul, Int.mul_assoc, e, Int.mul_sub, Int.mul_sub, ← hc]
    have : b * (((pn p k : Nat) : Int) * ((dg (rs a b p (i + k)) b p : Nat) : Int)) = ((pn p k : Nat) : Int) * (((dg (rs a b p (i + k)) b p : Nat) : Int) * b) := by
      simp only [Int.mul_comm, Int.mul_left_comm]
    rw [this]; omega
/-- a power that is one more than a multiple of b is a multiple of the period -/
theorem rep_power {p : Nat} (hp : isP p) (a b : Int) (hb : b % p ≠ 0) (h0 : 1 ≤ b) (s n : Nat) (h : IsRep (rs a b p) s n) (m : Nat) (hm : ((pn p m : Nat) : Int) % b = 1 % b) : m % (n - s) = 0 := by
  apply rep_dvd a b p s n h
  obtain ⟨c, hc⟩ := rs_pow hp a b hb s m
  have h1 := rep_range hp a b hb h0 s n h s (Nat.le_refl _)
  have h2 := rep_range hp a b hb h0 s n h (s + m) (by omega)
  have hq : b ∣ (pn p m : Nat) - 1 := by
    apply Int.dvd_of_emod_eq_zero
    rw [Int.sub_emod, hm]; simp
  obtain ⟨u, hu⟩ := hq
  have e : rs a b p (s + m) - rs a b p s = b * (c - u * rs a b p (s + m)) := by
    rw [Int.mul_sub, ← hc, ← Int.mul_assoc, ← hu, Int.sub_mul]; omega
  by_cases z1 : rs a b p s = 0
  · rw [rs_const a b p s 0 (nx_zero hp b hb) z1 m, z1]
  · by_cases z2 : rs a b p s = -b
    · rw [rs_const a b p s (-b) (nx_neg hp b hb) z2 m, z2]
    · generalize c - u * rs a b p (s + m) = k at e
      generalize rs a b p (s + m) = y at *
      generalize rs a b p s = x at *
      have hk1 : k < 1 := by
        rcases (show k < 1 ∨ 1 ≤ k by omega) with g | g
        · exact g
        · have := Int.mul_le_mul_of_nonneg_left g (show 0 ≤ b by omega); omega
      have hk2 : -1 < k := by
        rcases (show -1 < k ∨ k ≤ -1 by omega) with g | g
        · exact g
        · have := Int.mul_le_mul_of_nonneg_left g (show 0 ≤ b by omega)
          rw [Int.mul_neg, Int.mul_one] at this
          omega
      have : k = 0 := by omega
      subst this
      simp at e
      omega
theorem cop {p : Nat} (hp : isP p) (b : Nat) (hb : b % p ≠ 0) : Nat.Coprime b p := by
  have h0 := hp.pos
  unfold Nat.Coprime
  rw [Nat.gcd_comm, Nat.gcd_rec]
  have hl := Nat.mod_lt b (show 0 < p by omega)
  generalize b % p = c at *
  have key : ∀ p ∈ [2, 3, 5, 7, 11, 13], ∀ c, c < p → c ≠ 0 → Nat.gcd c p = 1 := by decide
  exact key p (by rcases hp with h | h | h | h | h | h <;> subst h <;> simp) c hl hb
theorem mod_dvd {a c b : Nat} (h : a ≤ c) (e : a % b = c % b) : b ∣ c - a := by
  have h1 := Nat.div_add_mod a b
  have h2 := Nat.div_add_mod c b
  exact ⟨c / b - a / b, by rw [Nat.mul_sub]; omega⟩
theorem dvd_mod {a c b : Nat} (h : a ≤ c) (e : b ∣ c - a) : c % b = a % b := by
  obtain ⟨k, hk⟩ := e
  rw [show c = a + b * k by omega, Nat.add_mul_mod_self_left]
/-- there is such a power -/
theorem order_ex {p : Nat} (hp : isP p) (b : Nat) (hb : b % p ≠ 0) : ∃ m, 1 ≤ m ∧ m ≤ b ∧ pn p m % b = 1 % b := by
  have h0 := hp.pos
  have hb0 : 0 < b := by rcases Nat.eq_zero_or_pos b with e | e; exact absurd (by rw [e]; simp) hb; exact e
  have hn : ¬ AllNew (fun i => ((pn p i % b : Nat) : Int)) (b + 1) := fun h => by
    have := allNew_le h 0 b (fun i _ => by have := Nat.mod_lt (pn p i) hb0; omega)
    omega
  have hex : ∃ i j, i < j ∧ j < b + 1 ∧ pn p i % b = pn p j % b := by
    apply Classical.byContradiction
    intro hno
    apply hn
    intro i j hij hj e
    exact hno ⟨i, j, hij, hj, by simpa using Int.ofNat.inj e⟩
  obtain ⟨i, j, hij, hj, e⟩ := hex
  refine ⟨j - i, by omega, by omega, ?_⟩
  have hpj : pn p j = pn p i * pn p (j - i) := by
    have : ∀ x y, pn p (x + y) = pn p x * pn p y := by
      intro x y
      induction y with
      | zero => simp [pn]
      | succ y ih => rw [← Nat.add_assoc, pn, ih, pn, Nat.mul_assoc]
    rw [← this, show i + (j - i) = j by omega]
  have hpos := pn_pos (show 0 < p by omega) (j - i)
  have hd : b ∣ pn p i * (pn p (j - i) - 1) := by
    rw [Nat.mul_sub, Nat.mul_one, ← hpj]
    have hle : pn p i ≤ pn p j := by rw [hpj]; exact Nat.le_mul_of_pos_right _ hpos
    exact mod_dvd hle e
  have hc : Nat.Coprime b (pn p i) := by
    have : ∀ x, Nat.Coprime b (pn p x) := by
      intro x
      induction x with
      | zero => simp [pn]
      | succ x ih => rw [pn]; exact Nat.Coprime.mul_right ih (cop hp b hb)
    exact this i
  have h1 := Nat.Coprime.dvd_of_dvd_mul_left hc hd
  exact dvd_mod (show 1 ≤ pn p (j - i) by omega) h1
end Go.Proofs.Ytdkobkghhnccgaa
