/- Plain mathematics for PartsResidues: the counters of residues, as lists, grow by one. -/
import Derived.Test.YtpgpkgnljoedaaaRm
import Derived.Test.YtpgpkgnljoedaaaCu
namespace Go.Proofs.Ytpgpkgnljoedaaa
def prtB (n : Nat) (l : List Int) : Bool := (List.range l.length).all (fun k => decide (1 ≤ l.getD k 0) && decide (l.getD k 0 ≤ 30) && (decide (k = 0) || decide (l.getD k 0 ≤ l.getD (k - 1) 0))) && decide (l.sum = n)
set_option maxHeartbeats 0 in
theorem prt_all : ∀ n, n ≤ 20 → (allp n).all (prtB n) = true := by decide +kernel
theorem allp_part20 (n : Nat) (hn : n ≤ 20) (l : List Int) (h : l ∈ allp n) : Part l ∧ l.sum = n := by
  have := List.all_eq_true.1 (prt_all n hn) l h
  unfold prtB at this
  simp only [Bool.and_eq_true, List.all_eq_true, List.mem_range, decide_eq_true_eq, Bool.or_eq_true] at this
  refine ⟨⟨fun k hk => ?_, by omega⟩, this.2⟩
  have := this.1 k hk
  refine ⟨this.1.1, this.1.2, fun h1 => ?_⟩
  rcases this.2 with h2 | h2
  · omega
  · exact h2
theorem count20 : ∀ n, n ≤ 20 → ptab[n]? = some (allp n).length := by decide +kernel
theorem V_allp (n : Nat) (hn : n ≤ 20) : V yes n n = (allp n).length := by
  have h1 := count20 n hn
  rw [ptab_get n (by omega)] at h1
  exact Option.some.inj h1
def cntL (f : List Int → Int) (L : List (List Int)) (m : Nat) : List Int := (List.range m).map (fun j : Nat => ((cntR (L.map f) m j : Nat) : Int))
theorem cntL_length (f : List Int → Int) (L : List (List Int)) (m : Nat) : (cntL f L m).length = m := by simp [cntL]
theorem cntL_get (f : List Int → Int) (L : List (List Int)) (m j : Nat) (h : j < m) : (cntL f L m)[j]? = some ((cntR (L.map f) m j : Nat) : Int) := by
  simp [cntL, h]
theorem cntR_snoc (rs : List Int) (r : Int) (m : Nat) (j : Int) : cntR (rs ++ [r]) m j = cntR rs m j + (if r % m = j then 1 else 0) := by
  unfold cntR
  rw [List.filter_append, List.length_append]
  by_cases h : r % m = j
  · simp [h]
  · simp [h]
theorem cntR_le (rs : List Int) (m : Nat) (j : Int) : cntR rs m j ≤ rs.length := List.length_filter_le _ _
theorem cntL_step (f : List Int → Int) (L : List (List Int)) (m k : Nat) (hk : k < L.length) (r : Int) (hr : f L[k] = r) (q : Nat) (hq : r % m = q) (hm : q < m) :
    cntL f (L.take (k + 1)) m = (cntL f (L.take k) m).set q (((cntR ((L.take k).map f) m q : Nat) : Int) + 1) := by
  apply List.ext_getElem?
  intro i
  rw [List.getElem?_set, List.take_succ_eq_append_getElem hk, cntL_length]
  by_cases hi : i < m
  · rw [cntL_get f _ m i hi, List.map_append, List.map_cons, List.map_nil, cntR_snoc, hr, hq]
    by_cases e : q = i
    · subst e; simp [hm]
    · rw [if_neg e, cntL_get f _ m i hi, if_neg (by omega)]; simp
  · rw [List.getElem?_eq_none (by rw [cntL_length]; omega)]
    rw [if_neg (by omega), List.getElem?_eq_none (by rw [cntL_length]; omega)]
theorem cntL_zero (f : List Int → Int) (L : List (List Int)) (m : Nat) : cntL f (L.take 0) m = List.replicate m 0 := by
  apply List.ext_getElem?
  intro i
  by_cases hi : i < m
  · rw [cntL_get f _ m i hi]; simp [cntR, hi]
  · rw [List.getElem?_eq_none (by rw [cntL_length]; omega), List.getElem?_eq_none (by simp; omega)]
/-- Go's remainder, made positive -/
theorem tmod_pos (r : Int) (m : Nat) (_ : 0 < m) : (r.tmod m + m) % m = r % m := by
  rw [Int.add_emod_right, Int.tmod_eq_emod]
  split
  · simp
  · rw [Int.sub_emod, Int.emod_emod]
    simp
theorem tmod_bd (r : Int) (m : Nat) (h : 0 < m) : -(m : Int) < r.tmod m ∧ r.tmod m < m := by
  have h1 := Int.lt_tmod_of_pos r (show (0 : Int) < m by omega)
  have h2 := Int.tmod_lt_of_pos r (show (0 : Int) < m by omega)
  exact ⟨h1, h2⟩
theorem res_of {m : Nat} {L : List (List Int)} (h : resOk m L = true) (j : Nat) (hj : j < m) : cntR (L.map crk) m j = cntR (L.map crk) m 0 ∧ (m = 5 → cntR (L.map rk) m j = cntR (L.map rk) m 0) := by
  unfold resOk at h
  have := List.all_eq_true.1 h j (List.mem_range.2 hj)
  simp only [Bool.and_eq_true, beq_iff_eq, Bool.or_eq_true, bne_iff_ne, ne_eq] at this
  refine ⟨this.1, fun e => ?_⟩
  rcases this.2 with h | h
  · exact absurd e h
  · exact h
end Go.Proofs.Ytpgpkgnljoedaaa
