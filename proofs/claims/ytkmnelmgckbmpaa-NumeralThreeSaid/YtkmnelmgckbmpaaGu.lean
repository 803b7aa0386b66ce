/- Mathematics: gaps and how often they occur: sums. -/
import Derived.Test.YtkmnelmgckbmpaaGt
namespace Go.Proofs.Ytkmnelmgckbmpaa
theorem sum_filter (f : Nat → Nat) (q : Nat → Bool) (h : ∀ d, q d = false → f d = 0) : ∀ l : List Nat, ((l.filter q).map f).sum = (l.map f).sum := by
  intro l
  induction l with
  | nil => rfl
  | cons d l ih =>
    by_cases e : q d = true
    · rw [List.filter_cons_of_pos e, List.map_cons, List.map_cons, List.sum_cons, List.sum_cons, ih]
    · rw [List.filter_cons_of_neg e, List.map_cons, List.sum_cons, ih, h d (by simpa using e)]; omega
theorem sum_range_one (g : Nat) (c : Nat) : ∀ k, ((List.range k).map fun d => if d = g then c else 0).sum = if g < k then c else 0 := by
  intro k
  induction k with
  | zero => simp
  | succ k ih =>
    rw [List.range_succ, List.map_append, List.sum_append, ih]
    simp only [List.map_cons, List.map_nil, List.sum_cons, List.sum_nil]
    by_cases e : g < k
    · rw [if_pos e, if_neg (by omega), if_pos (by omega)]; omega
    · by_cases e2 : k = g
      · subst e2; rw [if_neg (by omega), if_pos rfl, if_pos (by omega)]; omega
      · rw [if_neg e, if_neg e2, if_neg (by omega)]; rfl
theorem sum_add (l : List Nat) (f g : Nat → Nat) : (l.map fun d => f d + g d).sum = (l.map f).sum + (l.map g).sum := by
  induction l with
  | nil => rfl
  | cons d l ih => simp only [List.map_cons, List.sum_cons, ih]; omega
theorem sum_counts (m : Nat) (f : Nat → Nat) : ∀ D : List Nat, (∀ d ∈ D, d ≤ m) → ((List.range (m + 1)).map fun d => f d * D.count d).sum = (D.map f).sum := by
  intro D
  induction D with
  | nil => intro _; simp; induction (List.range (m + 1)) with
           | nil => rfl
           | cons a l ih => simpa using ih
  | cons g D ih =>
    intro h
    have e : (fun d => f d * (g :: D).count d) = fun d => f d * D.count d + if d = g then f g else 0 := by
      funext d
      rw [List.count_cons]
      by_cases e : d = g
      · subst e; rw [if_pos rfl]; simp [Nat.mul_add]
      · rw [if_neg e, if_neg (by simpa using fun h => e h.symm)]; simp
    rw [e, sum_add, ih (fun d hd => h d (List.mem_cons_of_mem _ hd)), sum_range_one, if_pos (by have := h g (by simp); omega)]
    simp only [List.map_cons, List.sum_cons]; omega
/-- sums over all gaps -/
theorem gapL_sum (m : Nat) (f : Nat → Nat) (D : List Nat) (h : ∀ d ∈ D, d ≤ m) : ((gapL m D).map fun x => f x.1 * x.2).sum = (D.map f).sum := by
  rw [← sum_counts m f D h]
  unfold gapL
  rw [List.map_map]
  exact sum_filter (fun d => f d * D.count d) (fun d => decide (0 < D.count d)) (fun d hd => by
    have h0 : ¬ 0 < D.count d := of_decide_eq_false hd
    have h1 : D.count d = 0 := by omega
    show f d * D.count d = 0
    rw [h1, Nat.mul_zero]) _
theorem gaps_sum {p m n : Nat} (hm : 0 < m) (hc : Nat.gcd p m = 1) (hn1 : 1 ≤ n) (hn : n ≤ m) : (gaps m (pS p m n)).sum = m := by
  have hl := pS_length hm hc hn
  have h0 : (pS p m n).getD 0 0 = 0 := by
    obtain ⟨i, hi, e⟩ := List.mem_iff_getElem.1 (mem_pS.2 ⟨hm, isPt_iff.2 ⟨0, hn1, by simp⟩⟩)
    rcases Nat.eq_zero_or_pos i with g | g
    · subst g; rw [List.getD_eq_getElem?_getD, List.getElem?_eq_getElem hi]; exact e
    · have := getD_lt (pS_lt p m n) g hi
      rw [show (pS p m n).getD i 0 = 0 by rw [List.getD_eq_getElem?_getD, List.getElem?_eq_getElem hi]; exact e] at this
      omega
  have key : ∀ k, k < (pS p m n).length → ((List.range k).map (gap m (pS p m n))).sum = (pS p m n).getD k 0 := by
    intro k
    induction k with
    | zero => intro _; rw [h0]; rfl
    | succ k ih =>
      intro hk
      rw [List.range_succ, List.map_append, List.sum_append, ih (by omega)]
      have := (gap_next k (show k < (pS p m n).length by omega)).2.2.2.2.1 hk
      simp only [List.map_cons, List.map_nil, List.sum_cons, List.sum_nil]
      omega
  unfold gaps
  obtain ⟨k, hk⟩ : ∃ k, (pS p m n).length = k + 1 := ⟨n - 1, by omega⟩
  rw [hk, List.range_succ, List.map_append, List.sum_append, key k (by omega)]
  have := (gap_next k (show k < (pS p m n).length by omega)).2.2.2.2.2.1 (by omega)
  simp only [List.map_cons, List.map_nil, List.sum_cons, List.sum_nil]
  omega
theorem gaps_le {p m n : Nat} (d : Nat) (h : d ∈ gaps m (pS p m n)) : 1 ≤ d ∧ d ≤ m := by
  unfold gaps at h
  obtain ⟨k, hk, rfl⟩ := List.mem_map.1 h
  have := gap_next k (List.mem_range.1 hk)
  omega
/-- what is told of the list: in order, at most three, sums -/
structure Three (m n : Nat) (L : List (Nat × Nat)) : Prop where
  lt : L.Pairwise fun x y => x.1 < y.1
  pos : ∀ x ∈ L, 1 ≤ x.1 ∧ x.1 ≤ m ∧ 1 ≤ x.2
  len : L.length ≤ 3
  sum : ∀ (h : L.length = 3), L[0].1 + L[1].1 = L[2].1
  long : (L.map fun x => x.1 * x.2).sum = m
  cnt : (L.map fun x => x.2).sum = n
theorem pair_three {a b c : Nat} {l : List Nat} (hl : l.Pairwise (· < ·)) (h : ∀ x ∈ l, x = a ∨ x = b ∨ x = c) : l.length ≤ 3 := by
  have h1 : l.Nodup := hl.imp (fun h => by omega)
  have h2 : l.length ≤ [a, b, c].length := by
    refine h1.length_le_of_subset ?_
    intro x hx
    rcases h x hx with e | e | e <;> simp [e]
  simpa using h2
theorem gap_kinds {p m n : Nat} (hm : 0 < m) (hc : Nat.gcd p m = 1) (hn1 : 1 ≤ n) (hn : n ≤ m) :
    (∃ c, ∀ d ∈ gaps m (pS p m n), d = c) ∨ ∃ a b, 1 ≤ a ∧ 1 ≤ b ∧ ∀ d ∈ gaps m (pS p m n), d = a ∨ d = b ∨ d = a + b := by
  have hl := pS_length hm hc hn
  rcases Nat.lt_or_ge n 2 with g | g
  · left
    refine ⟨gap m (pS p m n) 0, fun d hd => ?_⟩
    unfold gaps at hd
    obtain ⟨k, hk, rfl⟩ := List.mem_map.1 hd
    have := List.mem_range.1 hk
    obtain rfl : k = 0 := by omega
    rfl
  · right
    obtain ⟨a, b, u, v, h⟩ := AB.ex hm hc hn g
    refine ⟨a, b, h.a1, h.b1, fun d hd => ?_⟩
    unfold gaps at hd
    obtain ⟨k, hk, rfl⟩ := List.mem_map.1 hd
    exact ab_gap h k (List.mem_range.1 hk)
theorem three_of {p m n : Nat} (hm : 0 < m) (hc : Nat.gcd p m = 1) (hn1 : 1 ≤ n) (hn : n ≤ m) : Three m n (gapL m (gaps m (pS p m n))) := by
  have hlt := gapL_lt m (gaps m (pS p m n))
  have hmem : ∀ x ∈ gapL m (gaps m (pS p m n)), x.1 ∈ gaps m (pS p m n) := fun x hx => List.count_pos_iff.1 (mem_gapL.1 hx).2.1
  have hpf : ((gapL m (gaps m (pS p m n))).map fun x => x.1).Pairwise (· < ·) := by rw [List.pairwise_map]; exact hlt
  have hin : ∀ y ∈ (gapL m (gaps m (pS p m n))).map (fun x => x.1), y ∈ gaps m (pS p m n) := fun y hy => by
    obtain ⟨x, hx, rfl⟩ := List.mem_map.1 hy
    exact hmem x hx
  have hk := gap_kinds hm hc hn1 hn
  refine ⟨hlt, fun x hx => ?_, ?_, fun h => ?_, ?_, ?_⟩
  · have := gaps_le _ (hmem x hx)
    have := mem_gapL.1 hx
    omega
  · have e : (gapL m (gaps m (pS p m n))).length = ((gapL m (gaps m (pS p m n))).map fun x => x.1).length := by simp
    rw [e]
    rcases hk with ⟨c, hc'⟩ | ⟨a, b, _, _, hab⟩
    · exact pair_three hpf (a := c) (b := c) (c := c) fun y hy => .inl (hc' y (hin y hy))
    · exact pair_three hpf fun y hy => hab y (hin y hy)
  · have l1 := List.pairwise_iff_getElem.1 hlt 0 1 (by omega) (by omega) (by omega)
    have l2 := List.pairwise_iff_getElem.1 hlt 1 2 (by omega) (by omega) (by omega)
    have m0 := hmem _ (List.getElem_mem (l := gapL m (gaps m (pS p m n))) (n := 0) (by omega))
    have m1 := hmem _ (List.getElem_mem (l := gapL m (gaps m (pS p m n))) (n := 1) (by omega))
    have m2 := hmem _ (List.getElem_mem (l := gapL m (gaps m (pS p m n))) (n := 2) (by omega))
    rcases hk with ⟨c, hc'⟩ | ⟨a, b, ha, hb, hab⟩
    · have := hc' _ m0; have := hc' _ m1; omega
    · have h0 := hab _ m0; have h1 := hab _ m1; have h2 := hab _ m2
      omega
  · have := gapL_sum m (fun d => d) (gaps m (pS p m n)) (fun d hd => (gaps_le d hd).2)
    rw [this, List.map_id', gaps_sum hm hc hn1 hn]
  · have := gapL_sum m (fun _ => 1) (gaps m (pS p m n)) (fun d hd => (gaps_le d hd).2)
    simp only [Nat.one_mul] at this
    rw [this]
    have h3 : ∀ l : List Nat, (l.map fun _ => 1).sum = l.length := fun l => by
      induction l with
      | nil => rfl
      | cons a l ih => simp only [List.map_cons, List.sum_cons, ih, List.length_cons]; omega
    rw [h3, gaps_length, pS_length hm hc hn]
end Go.Proofs.Ytkmnelmgckbmpaa

