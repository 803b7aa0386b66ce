/- Mathematics of PartsPairs: odd parts. -/
import Derived.Test.YtpgpkgnljoedaaaGs
namespace Go.Proofs.Ytpgpkgnljoedaaa
/-- The odd parts of a number. -/
def od : Nat → Int → List Int
  | 0, x => [x]
  | n + 1, x => if x % 2 = 0 then od n (x / 2) ++ od n (x / 2) else [x]
theorem od_stable : ∀ (n : Nat) (x : Int), 1 ≤ x → x ≤ 2 ^ n → od (n + 1) x = od n x
  | 0, x, h, h' => by
    have : x = 1 := by simp at h'; omega
    subst this
    rfl
  | n + 1, x, h, h' => by
    by_cases he : x % 2 = 0
    · have := od_stable n (x / 2) (by omega) (by rw [Int.pow_succ] at h'; omega)
      rw [od, if_pos he, this, od, if_pos he]
    · rw [od, if_neg he, od, if_neg he]
/-- The odd parts of a number up to a million. -/
def odp (x : Int) : List Int := od 20 x
theorem odp_even {x : Int} (h : 1 ≤ x) (h' : x ≤ 1000000) (he : x % 2 = 0) : odp x = odp (x / 2) ++ odp (x / 2) := by
  have := od_stable 19 (x / 2) (by omega) (by omega)
  rw [odp, od, if_pos he, odp, this]
theorem odp_odd {x : Int} (he : x % 2 ≠ 0) : odp x = [x] := by rw [odp, od, if_neg he]
theorem flat_two (n : Nat) (L : List Int) : (List.replicate n (L ++ L)).flatten = (List.replicate (2 * n) L).flatten := by
  induction n with
  | zero => rfl
  | succ n ih => rw [show 2 * (n + 1) = 2 * n + 1 + 1 by omega, List.replicate_succ, List.replicate_succ, List.replicate_succ]; simp [ih]
theorem flat_one (n : Nat) (x : Int) : (List.replicate n [x]).flatten = List.replicate n x := by
  induction n with
  | zero => rfl
  | succ n ih => rw [List.replicate_succ, List.replicate_succ]; simp [ih]
/-- The round of the program's loop: n times x is turned into 2n times x/2. -/
theorem odp_round {x x0 : Int} {n : Nat} (h : 1 ≤ x) (h' : x ≤ 1000000) (he : x % 2 = 0) (hi : (List.replicate n (odp x)).flatten = odp x0) : (List.replicate (2 * n) (odp (x / 2))).flatten = odp x0 := by
  rw [← hi, odp_even h h' he, flat_two]
theorem odp_end {x x0 : Int} {n : Nat} (he : x % 2 ≠ 0) (hi : (List.replicate n (odp x)).flatten = odp x0) : odp x0 = List.replicate n x := by
  rw [← hi, odp_odd he, flat_one]
/-- The odd parts of a list, falling. -/
def odds (l : List Int) : List Int := srt (l.flatMap odp)
/-- One step of the reference: the even number at i is halved. -/
def hv (l : List Int) (i : Nat) : List Int := l.take i ++ l.getD i 0 / 2 :: l.getD i 0 / 2 :: l.drop (i + 1)
theorem at_split (l : List Int) (i : Nat) (h : i < l.length) : l = l.take i ++ l.getD i 0 :: l.drop (i + 1) := by
  have h1 := List.take_append_drop i l
  rw [List.drop_eq_getElem_cons h] at h1
  rw [List.getD_eq_getElem?_getD, List.getElem?_eq_getElem h]
  exact h1.symm
theorem hv_flat (l : List Int) (i : Nat) (h : i < l.length) (h1 : 1 ≤ l.getD i 0) (h2 : l.getD i 0 ≤ 1000000) (he : l.getD i 0 % 2 = 0) : (hv l i).flatMap odp = l.flatMap odp := by
  conv => rhs; rw [at_split l i h]
  simp [hv, odp_even h1 h2 he, -List.getD_eq_getElem?_getD]
theorem hv_sum (l : List Int) (i : Nat) (h : i < l.length) (he : l.getD i 0 % 2 = 0) : (hv l i).sum = l.sum := by
  conv => rhs; rw [at_split l i h]
  unfold hv
  generalize l.getD i 0 = x at *
  simp; omega
theorem hv_length (l : List Int) (i : Nat) (h : i < l.length) : (hv l i).length = l.length + 1 := by
  simp [hv]; omega
theorem hv_pos (l : List Int) (i : Nat) (h : i < l.length) (he : l.getD i 0 % 2 = 0) (hp : ∀ x ∈ l, 1 ≤ x) : ∀ x ∈ hv l i, 1 ≤ x := by
  intro x hx
  have hm : l.getD i 0 ∈ l := by
    rw [List.getD_eq_getElem?_getD, List.getElem?_eq_getElem h]; exact List.getElem_mem h
  have := hp _ hm
  simp [hv] at hx
  rcases hx with hx | rfl | hx
  · exact hp x (List.mem_of_mem_take hx)
  · rw [← List.getD_eq_getElem?_getD]; omega
  · exact hp x (List.mem_of_mem_drop hx)
theorem flat_perm {l m : List Int} (h : l.Perm m) : (l.flatMap odp).Perm (m.flatMap odp) := h.flatMap_right odp
/-- The end of the reference: all are odd, falling, and have the same odd parts. -/
theorem odds_end {l m : List Int} (hf : Fal m) (ho : ∀ x ∈ m, x % 2 ≠ 0) (hp : (m.flatMap odp).Perm (l.flatMap odp)) : m = odds l := by
  have e : m.flatMap odp = m := by
    clear hf hp
    induction m with
    | nil => rfl
    | cons x m ih => rw [List.flatMap_cons, odp_odd (ho x List.mem_cons_self), ih (fun y hy => ho y (List.mem_cons_of_mem _ hy))]; rfl
  rw [e] at hp
  exact srt_of hf hp
theorem sum_perm {l m : List Int} (h : l.Perm m) : l.sum = m.sum := by
  induction h with
  | nil => rfl
  | cons x _ ih => simp [ih]
  | swap x y l => simp; omega
  | trans _ _ a b => exact a.trans b
theorem len_le_sum {l : List Int} (h : ∀ x ∈ l, 1 ≤ x) : (l.length : Int) ≤ l.sum := by
  induction l with
  | nil => simp
  | cons x l ih =>
    have := h x List.mem_cons_self
    have := ih (fun y hy => h y (List.mem_cons_of_mem _ hy))
    simp; omega
end Go.Proofs.Ytpgpkgnljoedaaa
