/- All partitions of a number up to 20 stand in the list; hooks' products. -/
import Derived.Test.YtpgpkgnljoedaaaCj
namespace Go.Proofs.Ytpgpkgnljoedaaa

/-- falling lists with a bound on the first part -/
def Fall : Int → List Int → Prop
  | _, [] => True
  | m, x :: t => 1 ≤ x ∧ x ≤ m ∧ Fall x t
theorem mem_prt : ∀ (f n most : Nat) (l : List Int), n ≤ f → Fall most l → l.sum = n → l ∈ prt f n most := by
  intro f
  induction f with
  | zero =>
    intro n most l hn hf hs
    obtain rfl : n = 0 := by omega
    match l, hf, hs with
    | [], _, _ => simp [prt]
    | x :: t, hf, hs =>
      have h0 : ∀ (t : List Int) (m : Int), Fall m t → 0 ≤ t.sum := by
        intro t
        induction t with
        | nil => intro m _; simp
        | cons y t ih => intro m h; have := ih y h.2.2; have := h.1; rw [List.sum_cons]; omega
      have := h0 t x hf.2.2
      have := hf.1
      rw [List.sum_cons] at hs
      omega
  | succ f ih =>
    intro n most l hn hf hs
    have h0 : ∀ (t : List Int) (m : Int), Fall m t → 0 ≤ t.sum := by
      intro t
      induction t with
      | nil => intro m _; simp
      | cons y t ih => intro m h; have := ih y h.2.2; have := h.1; rw [List.sum_cons]; omega
    match l, hf, hs with
    | [], _, hs =>
      have : n = 0 := by simp at hs; omega
      subst this
      rw [prt_zero]; simp
    | x :: t, hf, hs =>
      obtain ⟨h1, h2, h3⟩ := hf
      rw [List.sum_cons] at hs
      have ht := h0 t x h3
      obtain ⟨k, rfl⟩ : ∃ k : Nat, x = ((k + 1 : Nat) : Int) := ⟨(x - 1).toNat, by omega⟩
      rw [prt_pos f n most (by omega)]
      unfold prtk
      rw [List.mem_flatMap]
      refine ⟨k, by rw [List.mem_range]; omega, ?_⟩
      rw [List.mem_map]
      exact ⟨t, ih (n - (k + 1)) (k + 1) t (by omega) h3 (by omega), rfl⟩
theorem fall_of : ∀ (l : List Int) (m : Int), (∀ k, k < l.length → 1 ≤ l.getD k 0 ∧ (1 ≤ k → l.getD k 0 ≤ l.getD (k - 1) 0)) → (0 < l.length → l.getD 0 0 ≤ m) → Fall m l := by
  intro l
  induction l with
  | nil => intro m _ _; trivial
  | cons x t ih =>
    intro m h hm
    refine ⟨(h 0 (by simp)).1, hm (by simp), ih x (fun k hk => ⟨?_, fun hk1 => ?_⟩) (fun ht => ?_)⟩
    · have := (h (k + 1) (by simp; omega)).1
      simpa using this
    · have := (h (k + 1) (by simp; omega)).2 (by omega)
      rw [Nat.add_sub_cancel] at this
      have e : (x :: t).getD k 0 = t.getD (k - 1) 0 := by
        obtain ⟨j, rfl⟩ : ∃ j, k = j + 1 := ⟨k - 1, by omega⟩
        simp
      rw [e] at this
      simpa using this
    · have := (h 1 (by simp; omega)).2 (by omega)
      simpa using this
theorem Part.mem {l : List Int} (h : Part l) (n : Nat) (hn : l.sum = n) : l ∈ allp n := by
  refine mem_prt n n n l (Nat.le_refl _) (fall_of l n (fun k hk => ⟨(h.1 k hk).1, (h.1 k hk).2.2⟩) (fun h0 => ?_)) hn
  have h1 := sum_mono l h.1 1 (by omega) l.length (by omega) (Nat.le_refl _)
  rw [List.take_length, take_sum l 0 h0] at h1
  simp at h1
  simp
  omega

/-- the product of the first k hooks of row m, and of the first m rows -/
def rp (l : List Int) (m : Nat) : Nat → Int
  | 0 => 1
  | k + 1 => rp l m k * hook l m k
def ap (l : List Int) : Nat → Int
  | 0 => 1
  | m + 1 => ap l m * rp l m (l.getD m 0).toNat
def fac : Nat → Nat
  | 0 => 1
  | n + 1 => fac n * (n + 1)
theorem hook_pos {l : List Int} (h : Part l) (i j : Nat) (hi : i < l.length) (hj : (j : Int) < l.getD i 0) : 1 ≤ hook l i j := by
  have := (cn_iff h j i hi).1 hj
  unfold hook
  omega
theorem rp_pos {l : List Int} (h : Part l) (m : Nat) (hm : m < l.length) : ∀ k : Nat, (k : Int) ≤ l.getD m 0 → 1 ≤ rp l m k := by
  intro k
  induction k with
  | zero => intro _; exact Int.le_refl _
  | succ k ih =>
    intro hk
    have h1 := ih (by omega)
    have h2 := hook_pos h m k hm (by omega)
    rw [rp]
    have := Int.mul_le_mul h1 h2 (by omega) (by omega)
    omega
theorem ap_pos {l : List Int} (h : Part l) : ∀ m, m ≤ l.length → 1 ≤ ap l m := by
  intro m
  induction m with
  | zero => intro _; exact Int.le_refl _
  | succ m ih =>
    intro hm
    have h1 := ih (by omega)
    have h2 := rp_pos h m (by omega) (l.getD m 0).toNat (by have := (h.at m (by omega)).1; omega)
    rw [ap]
    have := Int.mul_le_mul h1 h2 (by omega) (by omega)
    omega
theorem mul_grow {a b : Int} (ha : 0 ≤ a) (hb : 1 ≤ b) : a ≤ a * b := by
  have := Int.mul_le_mul_of_nonneg_left hb ha
  omega
theorem rp_mono {l : List Int} (h : Part l) (m : Nat) (hm : m < l.length) (k : Nat) : ∀ x : Nat, k ≤ x → (x : Int) ≤ l.getD m 0 → rp l m k ≤ rp l m x := by
  intro x
  induction x with
  | zero =>
    intro h1 _
    obtain rfl : k = 0 := by omega
    exact Int.le_refl _
  | succ x ih =>
    intro h1 h2
    by_cases e : k = x + 1
    · subst e; exact Int.le_refl _
    · have := ih (by omega) (by omega)
      have h3 := rp_pos h m hm x (by omega)
      have h4 := hook_pos h m x hm (by omega)
      rw [rp]
      have := mul_grow (show 0 ≤ rp l m x by omega) h4
      omega
theorem ap_mono {l : List Int} (h : Part l) (m : Nat) : ∀ x : Nat, m ≤ x → x ≤ l.length → ap l m ≤ ap l x := by
  intro x
  induction x with
  | zero =>
    intro h1 _
    obtain rfl : m = 0 := by omega
    exact Int.le_refl _
  | succ x ih =>
    intro h1 h2
    by_cases e : m = x + 1
    · subst e; exact Int.le_refl _
    · have := ih (by omega) (by omega)
      have h3 := ap_pos h x (by omega)
      have h4 := rp_pos h x (by omega) (l.getD x 0).toNat (by have := (h.at x (by omega)).1; omega)
      rw [ap]
      have := mul_grow (show 0 ≤ ap l x by omega) h4
      omega
/-- a product on the way is not greater than the whole one -/
theorem ap_way {l : List Int} (h : Part l) (m : Nat) (hm : m < l.length) (k : Nat) (hk : (k : Int) ≤ l.getD m 0) : ap l m * rp l m k ≤ ap l l.length := by
  have h1 := ap_mono h (m + 1) l.length (by omega) (Nat.le_refl _)
  rw [ap] at h1
  have h2 := rp_mono h m hm k (l.getD m 0).toNat (by omega) (by have := (h.at m hm).1; omega)
  have h3 := ap_pos h m (by omega)
  have := Int.mul_le_mul_of_nonneg_left h2 (show 0 ≤ ap l m by omega)
  omega
end Go.Proofs.Ytpgpkgnljoedaaa
