/- Plain mathematics of the conjugate. -/
import Derived.Test.YtpgpkgnljoedaaaHk
namespace Go.Proofs.Ytpgpkgnljoedaaa

theorem cn_iff {l : List Int} (h : Part l) (c : Int) (i : Nat) (hi : i < l.length) : c < l.getD i 0 ↔ i < cn l c l.length := by
  have key : ∀ d k, l.length - k = d → k ≤ l.length → (∀ j, j < k → c < l.getD j 0) → ∃ m, m ≤ l.length ∧ (∀ j, j < m → c < l.getD j 0) ∧ (m < l.length → ¬ c < l.getD m 0) := by
    intro d
    induction d with
    | zero => intro k hd hk hall; exact ⟨k, hk, hall, fun h => by omega⟩
    | succ d ih =>
      intro k hd hk hall
      by_cases hx : c < l.getD k 0
      · refine ih (k + 1) (by omega) (by omega) (fun j hj => ?_)
        by_cases e : j = k
        · subst e; exact hx
        · exact hall j (by omega)
      · exact ⟨k, hk, hall, fun _ => hx⟩
  obtain ⟨m, hm, h1, h2⟩ := key l.length 0 (by omega) (by omega) (fun j hj => by omega)
  rw [cn_stop h c m hm h1 h2]
  constructor
  · intro hc
    rcases Nat.lt_or_ge i m with hlt | hge
    · exact hlt
    · have := h.fall m i hge hi
      exact absurd (show c < l.getD m 0 by omega) (h2 (by omega))
  · exact h1 i
theorem cn_mono (l : List Int) (c c' : Int) (h : c ≤ c') (k : Nat) : cn l c' k ≤ cn l c k := by
  induction k with
  | zero => exact Nat.le_refl _
  | succ k ih =>
    rw [cn, cn]
    split <;> split <;> omega
theorem conj_getD {l : List Int} (j : Nat) (h : (j : Int) < l.getD 0 0) : (conj l).getD j 0 = (cn l j l.length : Nat) := by
  simp [List.getD, conj_get l j h]
theorem sum_one (x : Int) (h0 : 0 ≤ x) : ∀ f : Nat, ((List.range f).map (fun j : Nat => if (j : Int) < x then (1 : Int) else 0)).sum = min x f := by
  intro f
  induction f with
  | zero => simp; omega
  | succ f ih =>
    rw [List.range_succ, List.map_append, List.sum_append, ih]
    simp only [List.map_cons, List.map_nil, List.sum_cons, List.sum_nil]
    split <;> omega
theorem sum_add (f g : Nat → Int) : ∀ l : List Nat, (l.map (fun j => f j + g j)).sum = (l.map f).sum + (l.map g).sum := by
  intro l
  induction l with
  | nil => rfl
  | cons a l ih => simp only [List.map_cons, List.sum_cons, ih]; omega
theorem conj_sum_k {l : List Int} (h : Part l) (f : Nat) (hf : l.getD 0 0 = f) : ∀ k, k ≤ l.length → ((List.range f).map (fun j : Nat => ((cn l j k : Nat) : Int))).sum = (l.take k).sum := by
  intro k
  induction k with
  | zero =>
    intro _
    have : ∀ m : List Nat, (m.map (fun _ : Nat => (0 : Int))).sum = 0 := by
      intro m
      induction m with
      | nil => rfl
      | cons a m ih => simp only [List.map_cons, List.sum_cons, ih]; rfl
    simpa [cn] using this (List.range f)
  | succ k ih =>
    intro hk
    rw [take_sum l k (by omega), ← ih (by omega)]
    have e : (fun j : Nat => ((cn l j (k + 1) : Nat) : Int)) = fun j : Nat => ((cn l j k : Nat) : Int) + (if (j : Int) < l.getD k 0 then (1 : Int) else 0) := by
      funext j
      rw [cn]
      split <;> omega
    rw [e, sum_add, sum_one (l.getD k 0) (by have := h.at k (by omega); omega) f]
    have := h.fall 0 k (by omega) (by omega)
    rw [Int.min_eq_left (by omega)]
theorem conj_sum {l : List Int} (h : Part l) : (conj l).sum = l.sum := by
  obtain ⟨f, hf⟩ := Int.eq_ofNat_of_zero_le (first_bd h).1
  have := conj_sum_k h f hf l.length (Nat.le_refl _)
  rw [List.take_length] at this
  unfold conj conjk
  rw [show (l.getD 0 0).toNat = f by omega]
  exact this
theorem conj_len {l : List Int} (h : Part l) : ((conj l).length : Int) = l.getD 0 0 := by
  rw [conj_length]; have := (first_bd h).1; omega
theorem conj_part {l : List Int} (h : Part l) : Part (conj l) := by
  have hlen := conj_len h
  refine ⟨fun k hk => ?_, by rw [conj_sum h]; exact h.2⟩
  have hkf : (k : Int) < l.getD 0 0 := by omega
  have hl0 : 0 < l.length := by
    rcases Nat.eq_zero_or_pos l.length with h0 | h0
    · rw [getD_out l 0 (by omega)] at hkf; omega
    · exact h0
  have h1 := (cn_iff h k 0 hl0).1 hkf
  have h2 := cn_le l k l.length
  have h30 := h.len
  unfold Ok1
  rw [conj_getD k hkf]
  refine ⟨by omega, by omega, fun hk1 => ?_⟩
  rw [conj_getD (k - 1) (by omega)]
  have := cn_mono l ((k - 1 : Nat) : Int) k (by omega) l.length
  omega
theorem conj_first {l : List Int} (h : Part l) : (conj l).getD 0 0 = l.length := by
  by_cases h0 : 0 < l.length
  · have hp := (h.at 0 h0).1
    rw [conj_getD 0 (by omega)]
    have : cn l ((0 : Nat) : Int) l.length = l.length := by
      refine cn_stop h _ l.length (Nat.le_refl _) (fun j hj => ?_) (fun h => by omega)
      have := (h.at j hj).1
      omega
    rw [this]
  · have hl : l = [] := List.eq_nil_of_length_eq_zero (by omega)
    subst hl
    rfl
/-- a part of the conjugate's conjugate -/
theorem cn_conj {l : List Int} (h : Part l) (i : Nat) (hi : i < l.length) : ((cn (conj l) i (conj l).length : Nat) : Int) = l.getD i 0 := by
  have hlen := conj_len h
  obtain ⟨x, hx⟩ := Int.eq_ofNat_of_zero_le (show 0 ≤ l.getD i 0 by have := (h.at i hi).1; omega)
  have hfall := h.fall 0 i (by omega) hi
  rw [hx]
  congr 1
  refine cn_stop (conj_part h) i x (by omega) (fun j hj => ?_) (fun hlt => ?_)
  · rw [conj_getD j (by omega)]
    have := (cn_iff h j i hi).1 (by omega)
    omega
  · rw [conj_getD x (by omega)]
    intro hc
    have := (cn_iff h x i hi).2 (by omega)
    omega
theorem conj_conj {l : List Int} (h : Part l) : conj (conj l) = l := by
  have hl : (conj (conj l)).length = l.length := by rw [conj_length, conj_first h]; omega
  apply List.ext_getElem?
  intro k
  by_cases hk : k < l.length
  · rw [conj_get (conj l) k (by rw [conj_first h]; omega), getD_get l k hk, cn_conj h k hk]
  · rw [List.getElem?_eq_none (by omega), List.getElem?_eq_none (by omega)]
theorem conj_rk {l : List Int} (h : Part l) : rk (conj l) = - rk l := by
  unfold rk
  rw [conj_first h, conj_len h]
  omega
theorem conj_sq {l : List Int} (h : Part l) (q : Nat) (hq : IsSq l q) : IsSq (conj l) q := by
  constructor
  · intro j hj
    have h1 := hq.1 j hj
    have hjl : j < l.length := by
      rcases Nat.lt_or_ge j l.length with hlt | hge
      · exact hlt
      · rw [getD_out l j hge] at h1; omega
    have hf := h.fall 0 j (by omega) hjl
    rw [conj_getD j (by omega)]
    have := (cn_iff h j j hjl).1 h1
    omega
  · by_cases hqf : (q : Int) < l.getD 0 0
    · rw [conj_getD q hqf]
      have h2 := cn_le l q l.length
      rcases Nat.lt_or_ge q (cn l q l.length) with hlt | hge
      · have := (cn_iff h q q (by omega)).2 hlt
        have := hq.2
        omega
      · omega
    · rw [getD_out (conj l) q (by have := conj_len h; omega)]
      omega
theorem hook_conj {l : List Int} (h : Part l) (i j : Nat) (hi : i < l.length) (hj : (j : Int) < l.getD i 0) : hook (conj l) j i = hook l i j := by
  have hf := h.fall 0 i (by omega) hi
  unfold hook
  rw [conj_getD j (by omega), cn_conj h i hi]
  omega
end Go.Proofs.Ytpgpkgnljoedaaa
