/- Mathematics of points on a circle: sorted points, gaps, how often each gap occurs. -/
import Derived.Test.YtkmnelmgckbmpaaK
namespace Go.Proofs.Ytkmnelmgckbmpaa
/-- is x one of the points? -/
def isPt (p m n x : Nat) : Bool := (List.range n).any fun i => decide (i * p % m = x)
theorem isPt_iff {p m n x : Nat} : isPt p m n x = true ↔ ∃ i, i < n ∧ i * p % m = x := by
  unfold isPt; simp [List.any_eq_true]
/-- the points in order -/
def pS (p m n : Nat) : List Nat := (List.range m).filter (isPt p m n)
theorem range_lt (m : Nat) : (List.range m).Pairwise (· < ·) := List.pairwise_lt_range
theorem pS_lt (p m n : Nat) : (pS p m n).Pairwise (· < ·) := (range_lt m).filter _
theorem mem_pS {p m n x : Nat} : x ∈ pS p m n ↔ x < m ∧ isPt p m n x = true := by unfold pS; simp [List.mem_filter]
/-- the points as they come -/
def pR (p m n : Nat) : List Nat := (List.range n).map fun i => i * p % m
theorem mem_pR {p m n x : Nat} : x ∈ pR p m n ↔ ∃ i, i < n ∧ i * p % m = x := by unfold pR; simp
theorem mod_dvd' {a c b : Nat} (h : a ≤ c) (e : a % b = c % b) : b ∣ c - a := by
  have h1 := Nat.div_add_mod a b
  have h2 := Nat.div_add_mod c b
  exact ⟨c / b - a / b, by rw [Nat.mul_sub]; omega⟩
theorem pt_inj {p m : Nat} (hm : 0 < m) (hc : Nat.gcd p m = 1) {i j : Nat} (hi : i < m) (hj : j < m) (h : i * p % m = j * p % m) : i = j := by
  have key : ∀ i j : Nat, i ≤ j → j < m → i * p % m = j * p % m → i = j := by
    intro i j hij hj h
    have h1 : m ∣ j * p - i * p := mod_dvd' (Nat.mul_le_mul_right p hij) h
    rw [← Nat.sub_mul] at h1
    have h2 : m ∣ j - i := (Nat.Coprime.dvd_of_dvd_mul_right (show Nat.Coprime m p by rw [Nat.coprime_comm]; exact hc) h1)
    rcases Nat.eq_zero_or_pos (j - i) with h3 | h3
    · omega
    · have := Nat.le_of_dvd h3 h2; omega
  rcases Nat.le_total i j with h1 | h1
  · exact key i j h1 hj h
  · exact (key j i h1 hi h.symm).symm
theorem pR_nodup {p m n : Nat} (hm : 0 < m) (hc : Nat.gcd p m = 1) (hn : n ≤ m) : (pR p m n).Nodup := by
  unfold pR
  rw [List.nodup_iff_pairwise_ne, List.pairwise_map]
  refine List.Pairwise.imp_of_mem ?_ (range_lt n)
  intro i j hi hj hlt e
  have := pt_inj hm hc (show i < m by have := List.mem_range.1 hi; omega) (show j < m by have := List.mem_range.1 hj; omega) e
  omega
theorem pS_perm {p m n : Nat} (hm : 0 < m) (hc : Nat.gcd p m = 1) (hn : n ≤ m) : (pR p m n).Perm (pS p m n) := by
  rw [List.perm_ext_iff_of_nodup (pR_nodup hm hc hn) ((pS_lt p m n).imp (fun h => by omega))]
  intro x
  rw [mem_pR, mem_pS, isPt_iff]
  constructor
  · rintro ⟨i, hi, rfl⟩
    exact ⟨Nat.mod_lt _ hm, i, hi, rfl⟩
  · rintro ⟨_, h⟩
    exact h
theorem pS_length {p m n : Nat} (hm : 0 < m) (hc : Nat.gcd p m = 1) (hn : n ≤ m) : (pS p m n).length = n := by
  rw [← (pS_perm hm hc hn).length_eq]; simp [pR]
/-- the gap behind the k-th point -/
def gap (m : Nat) (S : List Nat) (k : Nat) : Nat := (if k + 1 < S.length then S.getD (k + 1) 0 else m) - S.getD k 0
def gaps (m : Nat) (S : List Nat) : List Nat := (List.range S.length).map (gap m S)
theorem gaps_length (m : Nat) (S : List Nat) : (gaps m S).length = S.length := by simp [gaps]
theorem gaps_take (m : Nat) (S : List Nat) (k : Nat) (h : k < S.length) : (gaps m S).take (k + 1) = (gaps m S).take k ++ [gap m S k] := by
  rw [List.take_succ_eq_append_getElem (by rw [gaps_length]; exact h)]
  simp [gaps]
/-- each gap with how often it occurs -/
def gapL (m : Nat) (D : List Nat) : List (Nat × Nat) := ((List.range (m + 1)).filter fun d => decide (0 < D.count d)).map fun d => (d, D.count d)
theorem mem_gapL {m : Nat} {D : List Nat} {x : Nat × Nat} : x ∈ gapL m D ↔ x.1 ≤ m ∧ 0 < D.count x.1 ∧ x.2 = D.count x.1 := by
  unfold gapL
  rw [List.mem_map]
  constructor
  · rintro ⟨d, hd, rfl⟩
    have := List.mem_filter.1 hd
    exact ⟨by have := List.mem_range.1 this.1; omega, by simpa using this.2, rfl⟩
  · rintro ⟨h1, h2, h3⟩
    exact ⟨x.1, List.mem_filter.2 ⟨List.mem_range.2 (by omega), by simpa using h2⟩, by rw [← h3]⟩
theorem gapL_lt (m : Nat) (D : List Nat) : (gapL m D).Pairwise fun x y => x.1 < y.1 := by
  unfold gapL
  rw [List.pairwise_map]
  exact (range_lt (m + 1)).filter _
theorem getD_mem (S : List Nat) (k : Nat) (h : k < S.length) : S.getD k 0 ∈ S := by
  rw [List.getD_eq_getElem?_getD, List.getElem?_eq_getElem h]; exact List.getElem_mem h
theorem getD_lt {S : List Nat} (h : S.Pairwise (· < ·)) {i j : Nat} (hij : i < j) (hj : j < S.length) : S.getD i 0 < S.getD j 0 := by
  rw [List.getD_eq_getElem?_getD, List.getD_eq_getElem?_getD, List.getElem?_eq_getElem (show i < S.length by omega), List.getElem?_eq_getElem hj]
  exact List.pairwise_iff_getElem.1 h i j (by omega) hj hij
/-- where the next point is -/
theorem gap_next {p m n : Nat} (k : Nat) (hk : k < (pS p m n).length) :
    1 ≤ gap m (pS p m n) k ∧ (pS p m n).getD k 0 + gap m (pS p m n) k ≤ m ∧ (pS p m n).getD k 0 < m ∧ isPt p m n ((pS p m n).getD k 0) = true ∧
    (k + 1 < (pS p m n).length → (pS p m n).getD k 0 + gap m (pS p m n) k = (pS p m n).getD (k + 1) 0) ∧ (¬ k + 1 < (pS p m n).length → (pS p m n).getD k 0 + gap m (pS p m n) k = m) ∧
    ∀ x, (pS p m n).getD k 0 < x → x < (pS p m n).getD k 0 + gap m (pS p m n) k → isPt p m n x = false := by
  have hl := pS_lt p m n
  have hs := mem_pS.1 (getD_mem _ k hk)
  have hno : ∀ x, (pS p m n).getD k 0 < x → x < (pS p m n).getD k 0 + gap m (pS p m n) k → isPt p m n x = false := by
    intro x h1 h2
    rw [Bool.eq_false_iff]
    intro h3
    have hxm : x < m := by
      unfold gap at h2
      split at h2
      · rename_i h; have := mem_pS.1 (getD_mem _ _ h); omega
      · omega
    obtain ⟨i, hi, e⟩ := List.mem_iff_getElem.1 (mem_pS.2 ⟨hxm, h3⟩)
    have hx : (pS p m n).getD i 0 = x := by rw [List.getD_eq_getElem?_getD, List.getElem?_eq_getElem hi]; exact e
    have hki : k < i := by
      rcases Nat.lt_trichotomy k i with g | g | g
      · exact g
      · subst g; omega
      · have := getD_lt hl g hk; omega
    unfold gap at h2
    rw [if_pos (by omega)] at h2
    rcases Nat.lt_trichotomy (k + 1) i with g | g | g
    · have := getD_lt hl g hi; omega
    · subst g; omega
    · omega
  unfold gap at hno ⊢
  split
  · rename_i h
    rw [if_pos h] at hno
    have h1 := getD_lt hl (show k < k + 1 by omega) h
    have h2 := mem_pS.1 (getD_mem _ _ h)
    exact ⟨by omega, by omega, hs.1, hs.2, fun _ => by omega, fun g => absurd h g, hno⟩
  · rename_i h
    rw [if_neg h] at hno
    exact ⟨by omega, by omega, hs.1, hs.2, fun g => absurd g h, fun _ => by omega, hno⟩
end Go.Proofs.Ytkmnelmgckbmpaa

