/- Plain mathematics for PartsFilled: a partition with one cell less; sums over the corners. -/
import Derived.Test.YtpgpkgnljoedaaaFi
namespace Go.Proofs.Ytpgpkgnljoedaaa

theorem set_getD (l : List Int) (i : Nat) (v : Int) (hi : i < l.length) (k : Nat) : (l.set i v).getD k 0 = if k = i then v else l.getD k 0 := by
  simp only [List.getD, List.getElem?_set]
  by_cases h : k = i
  · subst h; simp [hi]
  · rw [if_neg (fun e => h e.symm), if_neg h]
theorem set_sum (l : List Int) : ∀ (i : Nat) (v : Int), i < l.length → (l.set i v).sum = l.sum - l.getD i 0 + v := by
  induction l with
  | nil => intro i v h; simp at h
  | cons x t ih =>
    intro i v h
    match i, h with
    | 0, _ => simp; omega
    | i + 1, h =>
      have := ih i v (by simpa using h)
      simp only [List.set_cons_succ, List.sum_cons, List.getD_cons_succ]
      omega
/-- a corner: the next part is another one -/
def Corner (l : List Int) (i : Nat) : Prop := i + 1 < l.length → l.getD (i + 1) 0 ≠ l.getD i 0
/-- one cell less in row i -/
def dec (l : List Int) (i : Nat) : List Int := if l.getD i 0 = 1 then l.take i else l.set i (l.getD i 0 - 1)
theorem take_getD (l : List Int) (i k : Nat) (h : k < i) : (l.take i).getD k 0 = l.getD k 0 := by simp [List.getD, h]
theorem corner_last {l : List Int} (h : Part l) (i : Nat) (hi : i < l.length) (hc : Corner l i) (h1 : l.getD i 0 = 1) : i + 1 = l.length := by
  rcases Nat.lt_or_ge (i + 1) l.length with hlt | hge
  · have h2 := hc hlt
    have h3 := (h.at (i + 1) hlt).1
    have h4 := h.fall i (i + 1) (by omega) hlt
    omega
  · omega
theorem dec_part {l : List Int} (h : Part l) (i : Nat) (hi : i < l.length) (hc : Corner l i) : Part (dec l i) ∧ (dec l i).sum = l.sum - 1 := by
  unfold dec
  by_cases h1 : l.getD i 0 = 1
  · rw [if_pos h1]
    have hlast := corner_last h i hi hc h1
    have hs : (l.take i).sum = l.sum - 1 := by
      have := take_sum l i hi
      rw [show i + 1 = l.length from hlast, List.take_length, h1] at this
      omega
    refine ⟨⟨fun k hk => ?_, by rw [hs]; have := h.2; omega⟩, hs⟩
    rw [List.length_take] at hk
    have hk' : k < i := by omega
    have := h.1 k (by omega)
    unfold Ok1 at this ⊢
    rw [take_getD l i k hk']
    refine ⟨this.1, this.2.1, fun h2 => ?_⟩
    rw [take_getD l i (k - 1) (by omega)]
    exact this.2.2 h2
  · rw [if_neg h1]
    have hs := set_sum l i (l.getD i 0 - 1) hi
    have hx := h.at i hi
    refine ⟨⟨fun k hk => ?_, by rw [hs]; have := h.2; omega⟩, by rw [hs]; omega⟩
    rw [List.length_set] at hk
    have hok := h.1 k hk
    unfold Ok1 at hok ⊢
    rw [set_getD l i _ hi k]
    by_cases hki : k = i
    · subst hki
      rw [if_pos rfl]
      refine ⟨by omega, by omega, fun h2 => ?_⟩
      rw [set_getD l k _ hi (k - 1), if_neg (by omega)]
      have := hok.2.2 h2
      omega
    · rw [if_neg hki]
      refine ⟨hok.1, hok.2.1, fun h2 => ?_⟩
      rw [set_getD l i _ hi (k - 1)]
      by_cases hk1 : k - 1 = i
      · rw [if_pos hk1]
        have h3 := hok.2.2 h2
        have h4 := hc (by omega)
        rw [show i + 1 = k by omega] at h4
        rw [hk1] at h3
        omega
      · rw [if_neg hk1]; exact hok.2.2 h2
/-- the fillings of those without one of the first k corners -/
def csum (l : List Int) : Nat → Int
  | 0 => 0
  | k + 1 => csum l k + if k + 1 < l.length ∧ l.getD (k + 1) 0 = l.getD k 0 then 0 else fills (dec l k)
theorem csum_skip (l : List Int) (k : Nat) (h : k + 1 < l.length ∧ l.getD (k + 1) 0 = l.getD k 0) : csum l (k + 1) = csum l k := by rw [csum, if_pos h]; omega
theorem csum_take (l : List Int) (k : Nat) (h : Corner l k) : csum l (k + 1) = csum l k + fills (dec l k) := by
  rw [csum, if_neg]
  rintro ⟨h1, h2⟩
  exact h h1 h2
theorem fills_pos {l : List Int} (h : Part l) : 0 ≤ fills l := by
  unfold fills
  exact Int.ediv_nonneg (by omega) (by have := ap_pos h l.length (Nat.le_refl _); omega)
theorem fills_bd {l : List Int} (_ : Part l) (hs : l.sum ≤ 20) : fills l ≤ 2432902008176640000 := by
  unfold fills
  have h1 := (fac_le l.sum.toNat (by omega)).1
  have := Int.ediv_le_self (ap l l.length) (show (0 : Int) ≤ (fac l.sum.toNat : Nat) by omega)
  omega
theorem csum_mono {l : List Int} (h : Part l) (k : Nat) : ∀ m : Nat, k ≤ m → m ≤ l.length → csum l k ≤ csum l m := by
  intro m
  induction m with
  | zero =>
    intro h1 _
    obtain rfl : k = 0 := by omega
    exact Int.le_refl _
  | succ m ih =>
    intro h1 h2
    by_cases e : k = m + 1
    · subst e; exact Int.le_refl _
    · have h3 := ih (by omega) (by omega)
      by_cases hc : m + 1 < l.length ∧ l.getD (m + 1) 0 = l.getD m 0
      · rw [csum_skip l m hc]; exact h3
      · have hc' : Corner l m := fun h4 h5 => hc ⟨h4, h5⟩
        rw [csum_take l m hc']
        have := fills_pos (dec_part h m (by omega) hc').1
        omega
theorem csum_pos {l : List Int} (h : Part l) (k : Nat) (hk : k ≤ l.length) : 0 ≤ csum l k := csum_mono h 0 k (by omega) hk
end Go.Proofs.Ytpgpkgnljoedaaa
