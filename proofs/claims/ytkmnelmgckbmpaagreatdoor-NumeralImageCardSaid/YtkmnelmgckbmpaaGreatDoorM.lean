/- Plain mathematics of Fibonacci numbers and numerals; no program. -/
namespace Go.Proofs.YtkmnelmgckbmpaaGreatDoor

/-- Fibonacci numbers, F 0 = 0, F 1 = 1. -/
def F : Nat → Nat
  | 0 => 0
  | 1 => 1
  | n + 2 => F (n + 1) + F n

theorem F_step (n : Nat) : F (n + 2) = F (n + 1) + F n := by rw [F]
theorem F_mono_succ (n : Nat) : F n ≤ F (n + 1) := by
  match n with
  | 0 => simp [F]
  | n + 1 => rw [F_step]; omega
theorem F_mono {m n : Nat} (h : m ≤ n) : F m ≤ F n := by
  induction h with
  | refl => exact Nat.le_refl _
  | step _ ih => exact Nat.le_trans ih (F_mono_succ _)
theorem F_pos (n : Nat) (h : 1 ≤ n) : 1 ≤ F n := F_mono h
/-- fast Fibonacci pairs -/
def Fp : Nat → Nat × Nat
  | 0 => (0, 1)
  | n + 1 => let p := Fp n; (p.2, p.1 + p.2)
theorem Fp_eq (n : Nat) : Fp n = (F n, F (n + 1)) := by
  induction n with
  | zero => rfl
  | succ n ih => simp only [Fp, ih]; rw [F_step, Nat.add_comm (F n)]
theorem F_of (n v : Nat) (h : (Fp n).1 = v) : F n = v := by rw [Fp_eq] at h; exact h
theorem F_92 : F 92 = 7540113804746346429 := F_of _ _ (by decide +kernel)
theorem F_61 : F 61 = 2504730781961 := F_of _ _ (by decide +kernel)
theorem F_60 : F 60 = 1548008755920 := F_of _ _ (by decide +kernel)
theorem F_le (n : Nat) (h : n ≤ 92) : F n ≤ 7540113804746346429 := by
  have := F_mono h; rw [F_92] at this; exact this

/-- The greedy numeral of n with indices up to k. -/
def zk : Nat → Nat → List Nat
  | 0, _ => []
  | 1, _ => []
  | k + 2, n => if F (k + 2) ≤ n then (k + 2) :: zk (k + 1) (n - F (k + 2)) else zk (k + 1) n

theorem zk_zero (k : Nat) : zk k 0 = [] := by
  induction k with
  | zero => rfl
  | succ k ih =>
    match k with
    | 0 => rfl
    | k + 1 => rw [zk, if_neg (by have := F_pos (k + 2) (by omega); omega)]; exact ih
theorem zk_take {k n : Nat} (hk : 2 ≤ k) (h : F k ≤ n) : zk k n = k :: zk (k - 1) (n - F k) := by
  match k, hk with
  | k + 2, _ => rw [zk, if_pos h]; rfl
theorem zk_skip {k n : Nat} (hk : 2 ≤ k) (h : n < F k) : zk k n = zk (k - 1) n := by
  match k, hk with
  | k + 2, _ => rw [zk, if_neg (by omega)]; rfl
theorem zk_length (k n : Nat) : (zk k n).length ≤ k := by
  induction k generalizing n with
  | zero => simp [zk]
  | succ k ih =>
    match k with
    | 0 => simp [zk]
    | k + 1 =>
      show (zk (k + 2) n).length ≤ k + 2
      by_cases h : F (k + 2) ≤ n
      · rw [zk_take (by omega) h]; have := ih (n - F (k + 2)); simp; exact this
      · rw [zk_skip (by omega) (by omega)]; have := ih n; simp at this ⊢; omega

/-- The sum of Fibonacci numbers at indices. -/
def vsum (f : Nat → Nat) (l : List Nat) : Nat := (l.map f).sum
theorem vsum_nil (f : Nat → Nat) : vsum f [] = 0 := rfl
theorem vsum_cons (f : Nat → Nat) (k : Nat) (l : List Nat) : vsum f (k :: l) = f k + vsum f l := by simp [vsum]
theorem vsum_append (f : Nat → Nat) (l m : List Nat) : vsum f (l ++ m) = vsum f l + vsum f m := by simp [vsum]

/-- A list falls by at least two and stays in [2, k]. -/
def Falls : Nat → List Nat → Prop
  | _, [] => True
  | k, a :: l => 2 ≤ a ∧ a ≤ k ∧ Falls (a - 2) l

theorem Falls.mono {k k' : Nat} {l : List Nat} (h : Falls k l) (hk : k ≤ k') : Falls k' l := by
  match l, h with
  | [], _ => trivial
  | a :: l, h => exact ⟨h.1, Nat.le_trans h.2.1 hk, h.2.2⟩

theorem zk_falls (k n : Nat) (h : n < F (k + 1)) : Falls k (zk k n) := by
  induction k using Nat.strongRecOn generalizing n with
  | _ k ih =>
    match k with
    | 0 => trivial
    | 1 => trivial
    | k + 2 =>
      have h : n < F (k + 3) := h
      by_cases hk : F (k + 2) ≤ n
      · rw [zk_take (by omega) hk]
        have e := F_step (k + 1)
        have e : F (k + 3) = F (k + 2) + F (k + 1) := e
        refine ⟨by omega, Nat.le_refl _, ?_⟩
        have h2 : n - F (k + 2) < F (k + 1) := by omega
        show Falls k (zk (k + 1) (n - F (k + 2)))
        match k with
        | 0 =>
          have : n - F 2 = 0 := by simp [F] at h2 ⊢; omega
          rw [this, zk_zero]; trivial
        | k + 1 =>
          have h2 : n - F (k + 3) < F (k + 2) := h2
          show Falls (k + 1) (zk (k + 2) (n - F (k + 3)))
          rw [zk_skip (by omega) h2]
          exact ih (k + 1) (by omega) _ h2
      · rw [zk_skip (by omega) (by omega)]
        exact (ih (k + 1) (by omega) n (by show n < F (k + 2); omega)).mono (by omega)

theorem zk_sum (k n : Nat) (h : n < F (k + 1)) : vsum F (zk k n) = n := by
  induction k generalizing n with
  | zero => simp [F] at h; subst h; rfl
  | succ k ih =>
    match k with
    | 0 => simp [F] at h; subst h; rfl
    | k + 1 =>
      have h : n < F (k + 3) := h
      show vsum F (zk (k + 2) n) = n
      by_cases hk : F (k + 2) ≤ n
      · rw [zk_take (by omega) hk, vsum_cons]
        have e : F (k + 3) = F (k + 2) + F (k + 1) := F_step (k + 1)
        have := ih (n - F (k + 2)) (by
          have : F (k + 1) ≤ F (k + 2) := F_mono (by omega)
          show n - F (k + 2) < F (k + 2)
          omega)
        show F (k + 2) + vsum F (zk (k + 1) (n - F (k + 2))) = n
        omega
      · rw [zk_skip (by omega) (by omega)]
        exact ih n (by show n < F (k + 2); omega)

theorem falls_sum_lt (k : Nat) (l : List Nat) (h : Falls k l) : vsum F l < F (k + 1) := by
  induction l generalizing k with
  | nil => exact F_pos _ (by omega)
  | cons a l ih =>
    obtain ⟨h2, hk, hl⟩ := h
    have h1 := ih _ hl
    rw [vsum_cons]
    have h3 : F (a + 1) ≤ F (k + 1) := F_mono (by omega)
    have h4 : F (a + 1) = F a + F (a - 1) := by
      match a, h2 with
      | a + 2, _ => exact F_step _
    have h5 : a - 2 + 1 = a - 1 := by omega
    rw [h5] at h1
    omega

/-- The greedy numeral of the sum of a numeral is the numeral. -/
theorem zk_of_falls (k : Nat) (l : List Nat) (h : Falls k l) : zk k (vsum F l) = l := by
  induction k generalizing l with
  | zero =>
    match l, h with
    | [], _ => rfl
    | a :: l, h => have := h.1; have := h.2.1; omega
  | succ k ih =>
    match l, h with
    | [], _ => rw [vsum_nil, zk_zero]
    | a :: l, h =>
      obtain ⟨h2, hk, hl⟩ := h
      by_cases hak : a = k + 1
      · subst hak
        rw [vsum_cons, zk_take h2 (by omega)]
        simp only [Nat.add_sub_cancel, Nat.add_sub_cancel_left]
        congr 1
        exact ih l (hl.mono (by omega))
      · have hlt := falls_sum_lt a (a :: l) ⟨h2, Nat.le_refl _, hl⟩
        have hm : F (a + 1) ≤ F (k + 1) := F_mono (by omega)
        rw [zk_skip (by omega) (by omega)]
        exact ih (a :: l) ⟨h2, by omega, hl⟩


/-- The sum of the Fibonacci numbers with the indices moved by d. -/
def vs (d : Int) (l : List Nat) : Nat := vsum (fun k => F (k + d).toNat) l
theorem vs_nil (d : Int) : vs d [] = 0 := rfl
theorem vs_cons (d : Int) (k : Nat) (l : List Nat) : vs d (k :: l) = F (k + d).toNat + vs d l := vsum_cons _ _ _
theorem vs_append (d : Int) (l m : List Nat) : vs d (l ++ m) = vs d l + vs d m := vsum_append _ _ _
theorem vs_zero (l : List Nat) : vs 0 l = vsum F l := by
  induction l with
  | nil => rfl
  | cons a l ih => rw [vs_cons, vsum_cons, ih]; simp
theorem vs_take (d : Int) (l : List Nat) (k : Nat) (h : k < l.length) : vs d (l.take (k + 1)) = vs d (l.take k) + F (l[k] + d).toNat := by
  rw [List.take_succ_eq_append_getElem h, vs_append, vs_cons, vs_nil]; simp
theorem vs_take_le (d : Int) (l : List Nat) (k : Nat) : vs d (l.take k) ≤ vs d l := by
  have h : vs d (l.take k ++ l.drop k) = vs d (l.take k) + vs d (l.drop k) := vs_append _ _ _
  rw [List.take_append_drop] at h
  omega
theorem F_double (k : Nat) (h : 1 ≤ k) : F (k + 1) ≤ 2 * F k := by
  match k, h with
  | k + 1, _ => have := F_step k; have := F_mono_succ k; show F (k + 2) ≤ _; omega
theorem vs_le_double (d : Int) (l : List Nat) (h1 : d ≤ 1) (hl : ∀ k ∈ l, 2 ≤ k) : vs d l ≤ 2 * vsum F l := by
  induction l with
  | nil => simp [vs_nil, vsum_nil]
  | cons a l ih =>
    have := ih (fun k hk => hl k (List.mem_cons_of_mem _ hk))
    have h2 := hl a (List.mem_cons_self ..)
    rw [vs_cons, vsum_cons]
    have h3 : F (a + d).toNat ≤ F (a + 1) := F_mono (by omega)
    have h4 := F_double a (by omega)
    omega
end Go.Proofs.YtkmnelmgckbmpaaGreatDoor
