/- Plain mathematics of counting partitions part by part; no program. -/
namespace Go.Proofs.Ytpgpkgnljoedaaa

/-- f(j) + f(j - x) + f(j - 2 x) + .. (c: how many steps at most) -/
def geo (f : Nat → Nat) (x : Nat) : Nat → Nat → Nat
  | 0, j => f j
  | c + 1, j => if x ≤ j then f j + geo f x c (j - x) else f j
theorem geo_fuel (f : Nat → Nat) (x : Nat) (hx : 1 ≤ x) : ∀ c j, j ≤ c → geo f x c j = geo f x j j := by
  intro c
  induction c using Nat.strongRecOn with
  | _ c ih =>
    intro j hj
    match c, ih, hj with
    | 0, _, hj =>
      obtain rfl : j = 0 := by omega
      rfl
    | c + 1, ih, hj =>
      rw [geo]
      by_cases h : x ≤ j
      · rw [if_pos h]
        match j, h with
        | 0, h => omega
        | j + 1, h =>
          rw [geo, if_pos h, ih c (by omega) (j + 1 - x) (by omega)]
          by_cases e : j = c
          · subst e; rw [← ih j (by omega) (j + 1 - x) (by omega)]
          · rw [← ih j (by omega) (j + 1 - x) (by omega)]
      · rw [if_neg h]
        match j, h with
        | 0, _ => rfl
        | j + 1, h => rw [geo, if_neg h]
theorem geo_step (f : Nat → Nat) (x j : Nat) (hx : 1 ≤ x) (h : x ≤ j) : geo f x j j = f j + geo f x (j - x) (j - x) := by
  match j, h with
  | 0, h => omega
  | j + 1, h => rw [geo, if_pos h, geo_fuel f x hx j (j + 1 - x) (by omega)]
theorem geo_low (f : Nat → Nat) (x j : Nat) (h : j < x) : geo f x j j = f j := by
  match j, h with
  | 0, _ => rfl
  | j + 1, h => rw [geo, if_neg (by omega)]
theorem geo_mono (f g : Nat → Nat) (x : Nat) (h : ∀ j, f j ≤ g j) : ∀ c j, geo f x c j ≤ geo g x c j := by
  intro c
  induction c with
  | zero => exact h
  | succ c ih =>
    intro j
    rw [geo, geo]
    have h1 := h j
    have h2 := ih (j - x)
    split <;> omega
theorem geo_ge (f : Nat → Nat) (x : Nat) : ∀ c j, f j ≤ geo f x c j := by
  intro c j
  cases c with
  | zero => exact Nat.le_refl _
  | succ c => rw [geo]; split <;> omega

/-- how many ways there are to make j from the parts 1 .. p that are allowed -/
def V (al : Nat → Bool) : Nat → Nat → Nat
  | 0, j => if j = 0 then 1 else 0
  | p + 1, j => if al (p + 1) then geo (V al p) (p + 1) j j else V al p j
theorem V_skip (al : Nat → Bool) (p j : Nat) (h : al (p + 1) = false) : V al (p + 1) j = V al p j := by rw [V]; simp [h]
theorem V_low (al : Nat → Bool) (p j : Nat) (hj : j < p + 1) : V al (p + 1) j = V al p j := by
  rw [V]
  split
  · exact geo_low _ _ _ hj
  · rfl
theorem V_step (al : Nat → Bool) (p j : Nat) (h : al (p + 1) = true) (hj : p + 1 ≤ j) : V al (p + 1) j = V al p j + V al (p + 1) (j - (p + 1)) := by
  rw [V, V, if_pos h, if_pos h, geo_step _ _ _ (by omega) hj]
theorem V_le_succ (al : Nat → Bool) (p j : Nat) : V al p j ≤ V al (p + 1) j := by
  rw [V.eq_2]
  split
  · exact geo_ge _ _ _ _
  · exact Nat.le_refl _
theorem V_mono (al : Nat → Bool) (p q j : Nat) (h : p ≤ q) : V al p j ≤ V al q j := by
  induction q with
  | zero =>
    obtain rfl : p = 0 := by omega
    exact Nat.le_refl _
  | succ q ih =>
    by_cases e : p = q + 1
    · subst e; exact Nat.le_refl _
    · exact Nat.le_trans (ih (by omega)) (V_le_succ al q j)
def yes (_ : Nat) : Bool := true
theorem V_yes (al : Nat → Bool) (p : Nat) : ∀ j, V al p j ≤ V yes p j := by
  induction p with
  | zero => intro j; exact Nat.le_refl _
  | succ p ih =>
    intro j
    rw [V, V]
    split
    · exact geo_mono _ _ _ ih j j
    · exact Nat.le_trans (ih j) (geo_ge _ _ _ _)
/-- the entries beyond the number itself do not matter -/
theorem V_stop (al : Nat → Bool) (j : Nat) : ∀ p, j ≤ p → V al p j = V al j j := by
  intro p
  induction p with
  | zero =>
    intro h
    obtain rfl : j = 0 := by omega
    rfl
  | succ p ih =>
    intro h
    by_cases e : j = p + 1
    · subst e; rfl
    · rw [V_low al p j (by omega), ih (by omega)]

/-! ### a fast table -/
/-- the row with each entry summed with that x before it, x entries at a time -/
def pass (x : Nat) : Nat → List Nat → List Nat → List Nat
  | 0, _, _ => []
  | c + 1, prev, old => if old = [] then [] else
      let a := List.zipWith (· + ·) (old.take x) prev
      a ++ pass x c a (old.drop x)
theorem pass_get (f : Nat → Nat) (x : Nat) (hx : 1 ≤ x) : ∀ (c s : Nat) (prev old : List Nat), old.length ≤ c → prev.length = x → (∀ i, i < old.length → old[i]? = some (f (s + i))) →
    (∀ i, i < x → prev[i]? = some (if x ≤ s + i then geo f x (s + i - x) (s + i - x) else 0)) →
    (pass x c prev old).length = old.length ∧ ∀ i, i < old.length → (pass x c prev old)[i]? = some (geo f x (s + i) (s + i)) := by
  intro c
  induction c with
  | zero => intro s prev old h1 _ _ _; obtain rfl : old = [] := List.eq_nil_of_length_eq_zero (by omega); exact ⟨rfl, fun i h => by simp at h⟩
  | succ c ih =>
    intro s prev old h1 h2 h3 h4
    rw [pass]
    by_cases he : old = []
    · subst he; exact ⟨rfl, fun i h => by simp at h⟩
    · rw [if_neg he]
      have hpos : 0 < old.length := by
        rcases Nat.eq_zero_or_pos old.length with h | h
        · exact absurd (List.eq_nil_of_length_eq_zero h) he
        · exact h
      generalize ha : List.zipWith (· + ·) (old.take x) prev = a
      have hal : a.length = min x old.length := by rw [← ha, List.length_zipWith, List.length_take, h2]; omega
      have hag : ∀ i, i < a.length → a[i]? = some (geo f x (s + i) (s + i)) := by
        intro i hi
        have hix : i < x := by omega
        have hio : i < old.length := by omega
        rw [← ha, List.getElem?_zipWith, List.getElem?_take_of_lt hix, h3 i hio, h4 i hix]
        by_cases hs : x ≤ s + i
        · rw [if_pos hs, geo_step f x (s + i) hx hs]
        · rw [if_neg hs, geo_low f x (s + i) (by omega)]; simp
      show (a ++ pass x c a (old.drop x)).length = old.length ∧ ∀ i, i < old.length → (a ++ pass x c a (old.drop x))[i]? = some (geo f x (s + i) (s + i))
      by_cases hxo : x ≤ old.length
      · have hax : a.length = x := by omega
        have i1 := ih (s + x) a (old.drop x) (by rw [List.length_drop]; omega) hax (fun i hi => by
            rw [List.length_drop] at hi
            rw [List.getElem?_drop, h3 (x + i) (by omega), Nat.add_assoc])
          (fun i hi => by rw [hag i (by omega), if_pos (by omega), show s + x + i - x = s + i by omega])
        refine ⟨by rw [List.length_append, i1.1, List.length_drop]; omega, fun i hi => ?_⟩
        by_cases hix : i < x
        · rw [List.getElem?_append_left (by omega), hag i (by omega)]
        · rw [List.getElem?_append_right (by omega), hax, i1.2 (i - x) (by rw [List.length_drop]; omega), show s + x + (i - x) = s + i by omega]
      · have hd : old.drop x = [] := List.drop_eq_nil_of_le (by omega)
        have hp : pass x c a [] = [] := by cases c <;> simp [pass]
        rw [hd, hp, List.append_nil]
        exact ⟨by omega, fun i hi => hag i (by omega)⟩
/-- the rows of a table, up to entry m -/
def rowT (al : Nat → Bool) (m : Nat) : Nat → List Nat
  | 0 => (List.range (m + 1)).map (fun j => if j = 0 then 1 else 0)
  | p + 1 => if al (p + 1) then pass (p + 1) (m + 1) (List.replicate (p + 1) 0) (rowT al m p) else rowT al m p
theorem rowT_get (al : Nat → Bool) (m : Nat) : ∀ p, (rowT al m p).length = m + 1 ∧ ∀ i, i < m + 1 → (rowT al m p)[i]? = some (V al p i) := by
  intro p
  induction p with
  | zero => exact ⟨by simp [rowT], fun i hi => by simp [rowT, V, hi]⟩
  | succ p ih =>
    rw [rowT]
    by_cases h : al (p + 1) = true
    · rw [if_pos h]
      have := pass_get (V al p) (p + 1) (by omega) (m + 1) 0 (List.replicate (p + 1) 0) (rowT al m p) (by rw [ih.1]; omega) (by simp) (fun i hi => by rw [ih.2 i (by rw [ih.1] at hi; exact hi), Nat.zero_add])
        (fun i hi => by rw [if_neg (by omega)]; simp [hi])
      rw [ih.1] at this
      refine ⟨this.1, fun i hi => ?_⟩
      rw [this.2 i hi, Nat.zero_add, V, if_pos h]
    · rw [if_neg h]
      refine ⟨ih.1, fun i hi => ?_⟩
      rw [ih.2 i hi, V_skip al p i (by simpa using h)]
end Go.Proofs.Ytpgpkgnljoedaaa
