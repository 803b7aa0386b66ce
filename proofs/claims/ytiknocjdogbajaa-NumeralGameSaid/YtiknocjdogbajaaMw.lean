/- The plain law of Move: the best candidate is the reference's. -/
import Derived.Test.YtiknocjdogbajaaMv
namespace Go.Proofs.Ytiknocjdogbajaa

/-- (x, y) is a cold pair -/
def GoodC (x y : Int) : Prop := 0 ≤ x ∧ 0 ≤ y ∧ Cold x.toNat y.toNat
/-- what is reached from (a, b) by taking n -/
def Mvs (a b : Int) (n : Nat) (k : Nat) : Cand := match k with
  | 0 => ⟨a - n, b⟩
  | 1 => ⟨a, b - n⟩
  | _ => ⟨a - (n / 2 : Nat), b - (n / 2 : Nat)⟩
def mlen (n : Nat) : Nat := if n % 2 = 0 then 3 else 2
/-- the best way -/
structure Opt (a b : Nat) (n : Nat) (x y : Int) : Prop where
  pos : 1 ≤ n
  good : ∃ k, k < mlen n ∧ Mvs a b n k = ⟨x, y⟩ ∧ GoodC x y
  least : ∀ n' k, 1 ≤ n' → k < mlen n' → GoodC (Mvs a b n' k).x (Mvs a b n' k).y → n < n' ∨ (n = n' ∧ x ≤ (Mvs a b n' k).x)

theorem mvs_sum (a b : Nat) (n k : Nat) (hk : k < mlen n) : (Mvs a b n k).x + (Mvs a b n k).y = a + b - n := by
  unfold mlen at hk
  match k with
  | 0 => simp only [Mvs]; omega
  | 1 => simp only [Mvs]; omega
  | k + 2 => split at hk <;> simp only [Mvs] <;> omega

theorem Opt.unique {a b n n' : Nat} {x y x' y' : Int} (h : Opt a b n x y) (h' : Opt a b n' x' y') : n = n' ∧ x = x' ∧ y = y' := by
  obtain ⟨k, hk, e, g⟩ := h.good
  obtain ⟨k', hk', e', g'⟩ := h'.good
  have l1 := h.least n' k' h'.pos hk' (by rw [e']; exact g')
  have l2 := h'.least n k h.pos hk (by rw [e]; exact g)
  have s1 := mvs_sum a b n k hk
  have s2 := mvs_sum a b n' k' hk'
  rw [e] at s1 l2; rw [e'] at s2 l1
  simp only at *
  omega

/-! ### the fold of the code -/
def COk (a b : Int) (c : Cand) : Prop := TakeOk (a - c.x) (b - c.y)
def cn (a b : Int) (c : Cand) : Int := (a - c.x) + (b - c.y)
theorem bst_inv (a b : Int) (c : Nat → Cand) (k : Nat) :
    ((bst a b c k).n = -1 ∧ ∀ j, j < k → ¬ COk a b (c j)) ∨
    (∃ j, j < k ∧ COk a b (c j) ∧ (bst a b c k) = ⟨(c j).x, (c j).y, cn a b (c j)⟩ ∧
      ∀ i, i < k → COk a b (c i) → cn a b (c j) < cn a b (c i) ∨ (cn a b (c j) = cn a b (c i) ∧ (c j).x ≤ (c i).x)) := by
  induction k with
  | zero => exact .inl ⟨rfl, fun j h => absurd h (by omega)⟩
  | succ k ih =>
    by_cases ok : COk a b (c k)
    · have hp : 0 < cn a b (c k) := ok.2.2.1
      rcases ih with ⟨h1, h2⟩ | ⟨j, hj, oj, e, m⟩
      · refine .inr ⟨k, by omega, ok, bst_take ok (.inl (by omega)), ?_⟩
        intro i hi oi
        by_cases h : i = k
        · subst h; exact .inr ⟨rfl, Int.le_refl _⟩
        · exact absurd oi (h2 i (by omega))
      · have hpj : 0 < cn a b (c j) := oj.2.2.1
        by_cases ht : cn a b (c k) < cn a b (c j) ∨ (cn a b (c k) = cn a b (c j) ∧ (c k).x < (c j).x)
        · refine .inr ⟨k, by omega, ok, bst_take ok (.inr (by rw [e]; exact ht)), ?_⟩
          intro i hi oi
          by_cases h : i = k
          · subst h; exact .inr ⟨rfl, Int.le_refl _⟩
          · have := m i (by omega) oi; omega
        · refine .inr ⟨j, by omega, oj, ?_, ?_⟩
          · rw [bst_skip, e]
            rintro ⟨_, h⟩
            rw [e] at h
            simp only [cn] at *
            omega
          · intro i hi oi
            by_cases h : i = k
            · subst h; omega
            · exact m i (by omega) oi
    · have es : bst a b c (k + 1) = bst a b c k := bst_skip (fun h => ok h.1)
      rw [es]
      rcases ih with ⟨h1, h2⟩ | ⟨j, hj, oj, e, m⟩
      · refine .inl ⟨h1, fun j hj => ?_⟩
        by_cases h : j = k
        · subst h; exact ok
        · exact h2 j (by omega)
      · refine .inr ⟨j, by omega, oj, e, ?_⟩
        intro i hi oi
        by_cases h : i = k
        · subst h; exact absurd oi ok
        · exact m i (by omega) oi

/-! ### the fold of the reference -/
structure RB where
  x : Int
  y : Int
  f : Bool
open Classical in
noncomputable def rstep (s : RB) (c : Cand) : RB := if GoodC c.x c.y ∧ (s.f = false ∨ c.x < s.x) then ⟨c.x, c.y, true⟩ else s
noncomputable def rbst (c : Nat → Cand) : Nat → RB
  | 0 => ⟨0, 0, false⟩
  | k + 1 => rstep (rbst c k) (c k)
theorem rbst_take {c : Nat → Cand} {k : Nat} (h : GoodC (c k).x (c k).y) (h2 : (rbst c k).f = false ∨ (c k).x < (rbst c k).x) :
    rbst c (k + 1) = ⟨(c k).x, (c k).y, true⟩ := if_pos ⟨h, h2⟩
theorem rbst_skip {c : Nat → Cand} {k : Nat} (h : ¬ (GoodC (c k).x (c k).y ∧ ((rbst c k).f = false ∨ (c k).x < (rbst c k).x))) :
    rbst c (k + 1) = rbst c k := if_neg h
theorem rbst_inv (c : Nat → Cand) (k : Nat) :
    ((rbst c k).f = false ∧ ∀ j, j < k → ¬ GoodC (c j).x (c j).y) ∨
    (∃ j, j < k ∧ GoodC (c j).x (c j).y ∧ rbst c k = ⟨(c j).x, (c j).y, true⟩ ∧ ∀ i, i < k → GoodC (c i).x (c i).y → (c j).x ≤ (c i).x) := by
  induction k with
  | zero => exact .inl ⟨rfl, fun j h => absurd h (by omega)⟩
  | succ k ih =>
    by_cases ok : GoodC (c k).x (c k).y
    · rcases ih with ⟨h1, h2⟩ | ⟨j, hj, oj, e, m⟩
      · refine .inr ⟨k, by omega, ok, rbst_take ok (.inl h1), ?_⟩
        intro i hi oi
        by_cases h : i = k
        · subst h; exact Int.le_refl _
        · exact absurd oi (h2 i (by omega))
      · by_cases ht : (c k).x < (c j).x
        · refine .inr ⟨k, by omega, ok, rbst_take ok (.inr (by rw [e]; exact ht)), ?_⟩
          intro i hi oi
          by_cases h : i = k
          · subst h; exact Int.le_refl _
          · have := m i (by omega) oi; omega
        · refine .inr ⟨j, by omega, oj, ?_, ?_⟩
          · rw [rbst_skip, e]
            rintro ⟨_, h⟩
            rw [e] at h
            rcases h with h | h
            · cases h
            · exact ht h
          · intro i hi oi
            by_cases h : i = k
            · subst h; omega
            · exact m i (by omega) oi
    · have es : rbst c (k + 1) = rbst c k := rbst_skip (fun h => ok h.1)
      rw [es]
      rcases ih with ⟨h1, h2⟩ | ⟨j, hj, oj, e, m⟩
      · refine .inl ⟨h1, fun j hj => ?_⟩
        by_cases h : j = k
        · subst h; exact ok
        · exact h2 j (by omega)
      · refine .inr ⟨j, by omega, oj, e, ?_⟩
        intro i hi oi
        by_cases h : i = k
        · subst h; exact absurd oi ok
        · exact m i (by omega) oi
/-- the reference's answer for n -/
noncomputable def rmv (a b : Int) (n : Nat) : RB := rbst (Mvs a b n) (mlen n)

/-- where a number is reached first -/
theorem opt_first (a b n : Nat) (x y : Int) (h : Opt a b n x y) :
    (∀ m, 1 ≤ m → m < n → (rmv a b m).f = false) ∧ rmv a b n = ⟨x, y, true⟩ := by
  constructor
  · intro m h1 h2
    rcases rbst_inv (Mvs a b m) (mlen m) with ⟨g, _⟩ | ⟨j, hj, oj, _, _⟩
    · exact g
    · have := h.least m j h1 hj oj
      omega
  · rcases rbst_inv (Mvs a b n) (mlen n) with ⟨_, g⟩ | ⟨j, hj, oj, e, m⟩
    · obtain ⟨k, hk, ek, gk⟩ := h.good
      exact absurd (by rw [ek]; exact gk) (g k hk)
    · have l := h.least n j h.pos hj oj
      obtain ⟨k, hk, ek, gk⟩ := h.good
      have m2 := m k hk (by rw [ek]; exact gk)
      have s1 := mvs_sum a b n k hk
      have s2 := mvs_sum a b n j hj
      rw [ek] at m2 s1
      simp only at m2 s1
      have hx : (Mvs a b n j).x = x := by omega
      have hy : (Mvs a b n j).y = y := by omega
      unfold rmv
      rw [e, hx, hy]

theorem goodc_part (x y : Int) (hx : x ≤ 1000000) (hy : y ≤ 1000000) : GoodC x y ↔ 0 ≤ x ∧ y = part x.toNat := by
  unfold GoodC
  constructor
  · rintro ⟨h0, h1, h⟩
    rw [cold_part _ _ (by omega) (by omega)] at h
    exact ⟨h0, by omega⟩
  · rintro ⟨h0, h1⟩
    have hp := partner_le x.toNat (by omega)
    refine ⟨h0, by omega, ?_⟩
    rw [cold_part _ _ (by omega) (by omega)]
    omega
theorem goodc_comm {x y : Int} : GoodC x y ↔ GoodC y x := by
  unfold GoodC
  rw [cold_symm]
  constructor <;> (rintro ⟨h1, h2, h3⟩; exact ⟨h2, h1, h3⟩)

/-- the last candidate: the cold pair of the same difference, in the same order -/
def diag (a b : Nat) : Cand := if a ≤ b then ⟨pa (df a b), pa (df a b) + (df a b : Nat)⟩ else ⟨pa (df a b) + (df a b : Nat), pa (df a b)⟩
theorem diag_good (a b : Nat) : GoodC (diag a b).x (diag a b).y := by
  unfold diag GoodC Cold
  split
  · simp only
    refine ⟨by omega, by omega, ?_⟩
    have e1 : ((pa (df a b) : Nat) : Int).toNat = pa (df a b) := by omega
    have e2 : ((pa (df a b) : Int) + (df a b : Nat)).toNat = pa (df a b) + df a b := by omega
    rw [e1, e2, Nat.min_eq_left (by omega), Nat.max_eq_right (by omega), Nat.add_sub_cancel_left]
  · simp only
    refine ⟨by omega, by omega, ?_⟩
    have e1 : ((pa (df a b) : Nat) : Int).toNat = pa (df a b) := by omega
    have e2 : ((pa (df a b) : Int) + (df a b : Nat)).toNat = pa (df a b) + df a b := by omega
    rw [e1, e2, Nat.min_eq_right (by omega), Nat.max_eq_left (by omega), Nat.add_sub_cancel_left]
theorem diag_only (a b : Nat) (t : Nat) (h : GoodC (a - t) (b - t)) : diag a b = ⟨a - t, b - t⟩ := by
  obtain ⟨h1, h2, h3⟩ := h
  unfold Cold at h3
  have e1 : max ((a : Int) - t).toNat ((b : Int) - t).toNat - min ((a : Int) - t).toNat ((b : Int) - t).toNat = df a b := by unfold df; omega
  rw [e1] at h3
  unfold diag
  split
  · congr 1
    · omega
    · unfold df at *; omega
  · congr 1
    · unfold df at *; omega
    · omega
theorem good_eq (a : Nat) (ha : a ≤ 1000000) (y : Int) (hy : y ≤ 1000000) (h : GoodC a y) : y = part a := by
  have := (goodc_part a y (by omega) hy).1 h
  rw [show ((a : Nat) : Int).toNat = a by omega] at this
  exact this.2

/-- every good move is an allowed candidate and the other way round -/
theorem good_cand (a b : Nat) (ha : a ≤ 1000000) (hb : b ≤ 1000000) (n k : Nat) (hn : 1 ≤ n) (hk : k < mlen n) (h : GoodC (Mvs a b n k).x (Mvs a b n k).y) :
    ∃ j, j < 3 ∧ cands a b (diag a b).x (diag a b).y j = Mvs a b n k ∧ COk a b (Mvs a b n k) ∧ cn a b (Mvs a b n k) = n := by
  match k, hk, h with
  | 0, hk, h =>
    simp only [Mvs] at h ⊢
    have e := good_eq b hb _ (by omega) (goodc_comm.1 h)
    refine ⟨1, by omega, by simp only [cands]; rw [e], ?_, ?_⟩
    · unfold COk TakeOk; simp only; omega
    · unfold cn; simp only; omega
  | 1, hk, h =>
    simp only [Mvs] at h ⊢
    have e := good_eq a ha _ (by omega) h
    refine ⟨0, by omega, by simp only [cands]; rw [e], ?_, ?_⟩
    · unfold COk TakeOk; simp only; omega
    · unfold cn; simp only; omega
  | k + 2, hk, h =>
    unfold mlen at hk
    split at hk
    · simp only [Mvs] at h ⊢
      have e := diag_only a b _ h
      refine ⟨2, by omega, by simp only [cands]; rw [e], ?_, ?_⟩
      · unfold COk TakeOk; simp only; omega
      · unfold cn; simp only; omega
    · omega
theorem cand_good (a b : Nat) (ha : a ≤ 1000000) (hb : b ≤ 1000000) (j : Nat) (hj : j < 3) (h : COk a b (cands a b (diag a b).x (diag a b).y j)) :
    ∃ n k, 1 ≤ n ∧ k < mlen n ∧ Mvs a b n k = cands a b (diag a b).x (diag a b).y j ∧ GoodC (cands a b (diag a b).x (diag a b).y j).x (cands a b (diag a b).x (diag a b).y j).y ∧ cn a b (cands a b (diag a b).x (diag a b).y j) = n := by
  match j, hj with
  | 0, _ =>
    simp only [cands, COk, TakeOk] at h
    simp only [cands]
    refine ⟨b - part a, 1, by omega, by unfold mlen; split <;> omega, by simp only [Mvs]; congr 1; omega, ?_, by simp only [cn]; omega⟩
    refine (goodc_part a (part a) (by omega) (by omega)).2 ⟨by omega, ?_⟩
    rw [show ((a : Nat) : Int).toNat = a by omega]
  | 1, _ =>
    simp only [cands, COk, TakeOk] at h
    simp only [cands]
    refine ⟨a - part b, 0, by omega, by unfold mlen; split <;> omega, by simp only [Mvs]; congr 1; omega, ?_, by simp only [cn]; omega⟩
    refine goodc_comm.1 ((goodc_part b (part b) (by omega) (by omega)).2 ⟨by omega, ?_⟩)
    rw [show ((b : Nat) : Int).toNat = b by omega]
  | 2, _ =>
    have g := diag_good a b
    have hd : (diag a b).x - (diag a b).y = (a : Int) - b := by
      unfold diag df; split <;> simp only <;> omega
    simp only [cands, COk, TakeOk] at h
    simp only [cands]
    generalize (diag a b).x = x at *
    generalize (diag a b).y = y at *
    have h0 := g.1
    have h1 := g.2.1
    refine ⟨2 * (a - x).toNat, 2, by omega, by unfold mlen; split <;> omega, ?_, g, by simp only [cn]; omega⟩
    simp only [Mvs]
    congr 1 <;> omega

/-- from a pair that is not cold there is a move -/
theorem exists_cand (a b : Nat) (ha : a ≤ 1000000) (hb : b ≤ 1000000) (hc : ¬ Cold a b) : ∃ j, j < 3 ∧ COk a b (cands a b (diag a b).x (diag a b).y j) := by
  have key : ∀ x y : Nat, x ≤ 1000000 → y ≤ 1000000 → ¬ Cold x y → x ≤ y → pa (df x y) < x ∨ part x < y := by
    intro x y hx hy hc hxy
    by_cases h1 : pa (df x y) < x
    · exact .inl h1
    · by_cases h2 : part x < y
      · exact .inr h2
      · have hne : y ≠ part x := fun e => hc ((cold_part x y (by omega) (by omega)).2 e)
        have hp := partner_le x (by omega)
        have hpc : Cold x (part x) := (cold_part x (part x) (by omega) (by omega)).2 rfl
        unfold Cold at hpc
        rw [Nat.min_eq_left (by omega), Nat.max_eq_right (by omega)] at hpc
        have := pa_mono (df x y) (part x - x) (by unfold df; omega) (by omega)
        omega
  rcases Nat.le_total a b with h | h
  · rcases key a b ha hb hc h with g | g
    · refine ⟨2, by omega, ?_⟩
      simp only [cands, COk, TakeOk, diag, if_pos h]
      unfold df at *
      omega
    · refine ⟨0, by omega, ?_⟩
      simp only [cands, COk, TakeOk]
      omega
  · rcases key b a hb ha (fun e => hc (cold_symm.1 e)) h with g | g
    · have ed : df b a = df a b := by unfold df; omega
      rw [ed] at g
      refine ⟨2, by omega, ?_⟩
      by_cases hab : a ≤ b
      · simp only [cands, COk, TakeOk, diag, if_pos hab]
        unfold df at *
        omega
      · simp only [cands, COk, TakeOk, diag, if_neg hab]
        unfold df at *
        omega
    · refine ⟨1, by omega, ?_⟩
      simp only [cands, COk, TakeOk]
      omega

/-- what Move returns is the best way -/
theorem bst_opt (a b : Nat) (ha : a ≤ 1000000) (hb : b ≤ 1000000) (hc : ¬ Cold a b) :
    ∃ n, Opt a b n (bst a b (cands a b (diag a b).x (diag a b).y) 3).x (bst a b (cands a b (diag a b).x (diag a b).y) 3).y := by
  obtain ⟨j0, hj0, ok0⟩ := exists_cand a b ha hb hc
  rcases bst_inv a b (cands a b (diag a b).x (diag a b).y) 3 with ⟨_, h⟩ | ⟨j, hj, ok, e, m⟩
  · exact absurd ok0 (h j0 hj0)
  · obtain ⟨n, k, hn, hk, ek, gk, en⟩ := cand_good a b ha hb j hj ok
    rw [e]
    refine ⟨n, ⟨hn, ⟨k, hk, ek, gk⟩, ?_⟩⟩
    intro n' k' hn' hk' g'
    obtain ⟨i, hi, ei, oi, ci⟩ := good_cand a b ha hb n' k' hn' hk' g'
    have := m i hi (by rw [ei]; exact oi)
    rw [ei, ci, en] at this
    simp only
    omega
end Go.Proofs.Ytiknocjdogbajaa
