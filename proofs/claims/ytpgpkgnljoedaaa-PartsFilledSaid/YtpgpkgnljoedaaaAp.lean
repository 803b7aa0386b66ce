/- Plain mathematics for PartsFilled: the product of the hooks, reckoned on lists of natural numbers in one pass. -/
import Derived.Test.YtpgpkgnljoedaaaFm
namespace Go.Proofs.Ytpgpkgnljoedaaa

def rowN : Nat → List Nat → Nat
  | 0, _ => 1
  | _ + 1, [] => 1
  | x + 1, c :: cs => (x + c) * rowN x cs
def addN : Nat → List Nat → List Nat
  | 0, c => c
  | x + 1, [] => 1 :: addN x []
  | x + 1, c :: cs => (c + 1) :: addN x cs
def conN : List Nat → List Nat
  | [] => []
  | x :: r => addN x (conN r)
def capN : List Nat → Nat
  | [] => 1
  | x :: r => rowN x (addN x (conN r)) * capN r
theorem addN_length (x : Nat) : ∀ c : List Nat, x ≤ (addN x c).length := by
  induction x with
  | zero => intro c; exact Nat.zero_le _
  | succ x ih =>
    intro c
    cases c with
    | nil => simpa [addN] using ih []
    | cons a cs => simpa [addN] using ih cs
theorem addN_getD (x : Nat) : ∀ (c : List Nat) (k : Nat), (addN x c).getD k 0 = c.getD k 0 + if k < x then 1 else 0 := by
  induction x with
  | zero => intro c k; simp [addN]
  | succ x ih =>
    intro c k
    cases c with
    | nil =>
      cases k with
      | zero => simp [addN]
      | succ k => have := ih [] k; simp only [addN, List.getD_cons_succ, this]; simp
    | cons a cs =>
      cases k with
      | zero => simp [addN]
      | succ k => have := ih cs k; simp only [addN, List.getD_cons_succ, this]; simp
/-- products from the left -/
def pr (f : Nat → Int) : Nat → Int
  | 0 => 1
  | k + 1 => pr f k * f k
theorem pr_congr {f g : Nat → Int} : ∀ k, (∀ i, i < k → f i = g i) → pr f k = pr g k := by
  intro k
  induction k with
  | zero => intro _; rfl
  | succ k ih => intro h; rw [pr, pr, ih (fun i hi => h i (by omega)), h k (by omega)]
theorem pr_front (f : Nat → Int) : ∀ k, pr f (k + 1) = f 0 * pr (fun i => f (i + 1)) k := by
  intro k
  induction k with
  | zero => simp [pr]
  | succ k ih => rw [pr, ih, Int.mul_assoc]; rfl
theorem rp_pr (l : List Int) (m : Nat) : ∀ k, rp l m k = pr (hook l m) k := by
  intro k
  induction k with
  | zero => rfl
  | succ k ih => rw [rp, pr, ih]
theorem rowN_pr (x : Nat) : ∀ c : List Nat, x ≤ c.length → ((rowN x c : Nat) : Int) = pr (fun k => (x : Int) - k + ((c.getD k 0 : Nat) : Int) - 1) x := by
  induction x with
  | zero => intro c _; rfl
  | succ x ih =>
    intro c hc
    cases c with
    | nil => simp at hc
    | cons a cs =>
      rw [pr_front, rowN, Int.natCast_mul, ih cs (by simpa using hc)]
      congr 1
      · simp only [List.getD_cons_zero]; omega
      · refine pr_congr _ (fun i _ => ?_)
        simp only [List.getD_cons_succ]; omega
theorem cn_cons (x : Int) (r : List Int) (c : Int) : ∀ k, cn (x :: r) c (k + 1) = cn r c k + if c < x then 1 else 0 := by
  intro k
  induction k with
  | zero => simp [cn]
  | succ k ih =>
    rw [cn, ih, cn, List.getD_cons_succ]
    omega
def ints (L : List Nat) : List Int := L.map Int.ofNat
theorem conN_cn (L : List Nat) (k : Nat) : (conN L).getD k 0 = cn (ints L) k (ints L).length := by
  induction L with
  | nil => simp [conN, ints, cn]
  | cons x r ih =>
    rw [conN, addN_getD, ih]
    show _ = cn (Int.ofNat x :: ints r) k ((ints r).length + 1)
    rw [cn_cons]
    have : ((k : Int) < Int.ofNat x) = (k < x) := by simp
    simp only [this]
theorem hook_cons (x : Int) (r : List Int) (i j : Nat) (h : (j : Int) < x) : hook (x :: r) (i + 1) j = hook r i j := by
  unfold hook
  rw [List.getD_cons_succ, List.length_cons, cn_cons, if_pos h]
  omega
theorem ap_cons (x : Nat) (r : List Int) : ∀ m, (∀ k, k < m → r.getD k 0 ≤ x) → ap ((x : Int) :: r) (m + 1) = rp ((x : Int) :: r) 0 x * ap r m := by
  intro m
  induction m with
  | zero => intro _; simp [ap]
  | succ m ih =>
    intro h
    rw [ap, ih (fun k hk => h k (by omega)), ap, List.getD_cons_succ, Int.mul_assoc]
    congr 2
    rw [rp_pr, rp_pr]
    have := h m (by omega)
    exact pr_congr _ (fun i hi => hook_cons _ _ _ _ (by omega))
theorem capN_ap : ∀ L : List Nat, L.Pairwise (· ≥ ·) → ap (ints L) (ints L).length = ((capN L : Nat) : Int) := by
  intro L
  induction L with
  | nil => intro _; rfl
  | cons x r ih =>
    intro h
    have h1 := ih (List.pairwise_cons.1 h).2
    have h2 := (List.pairwise_cons.1 h).1
    show ap ((x : Int) :: ints r) ((ints r).length + 1) = _
    rw [ap_cons x (ints r) _ (fun k hk => by
      have hk' : k < r.length := by simpa [ints] using hk
      have := h2 r[k] (List.getElem_mem hk')
      simp [ints, List.getD, hk']
      exact this), h1, capN, Int.natCast_mul]
    congr 1
    rw [rp_pr, rowN_pr x _ (addN_length _ _)]
    refine pr_congr _ (fun i hi => ?_)
    have := conN_cn (x :: r) i
    rw [conN] at this
    rw [this]
    unfold hook
    show ((x : Int) :: ints r).getD 0 0 - _ + _ - _ - 1 = _
    rw [List.getD_cons_zero]
    show _ - _ + ((cn (ints (x :: r)) i (ints (x :: r)).length : Nat) : Int) - _ - 1 = _
    omega
end Go.Proofs.Ytpgpkgnljoedaaa
