/- Plain mathematics: the circle product. -/
import Derived.Test.YtiknocjdogbajaaGolden
namespace Go.Proofs.Ytiknocjdogbajaa

/-- all sums of indices -/
def sums : List Nat → List Nat → List Nat
  | [], _ => []
  | j :: l, m => m.map (j + ·) ++ sums l m
def circ (l m : List Nat) : Nat := vs 0 (sums l m)

theorem F_add (j k : Nat) : F (j + k + 1) = F (j + 1) * F (k + 1) + F j * F k := by
  induction k using Nat.strongRecOn with
  | _ k ih =>
    match k with
    | 0 => simp [F]
    | 1 =>
      simp [F]
    | k + 2 =>
      have h1 := ih (k + 1) (by omega)
      have h0 := ih k (by omega)
      have e : F (j + (k + 2) + 1) = F (j + (k + 1) + 1) + F (j + k + 1) := F_step (j + k + 1)
      have e1 : F (k + 2 + 1) = F (k + 2) + F (k + 1) := F_step (k + 1)
      have e2 : F (k + 2) = F (k + 1) + F k := F_step k
      have h1' : F (j + (k + 1) + 1) = F (j + 1) * F (k + 2) + F j * F (k + 1) := h1
      rw [e, h1', h0, e1, e2]
      simp only [Nat.mul_add]
      omega
theorem vs_map_zero (j : Nat) (m : List Nat) : (vs 0 (m.map (j + ·)) : Int) = F j * (vs 1 m : Int) + F (j + 1) * (vs 0 m : Int) - F j * (vs 0 m : Int) := by
  induction m with
  | nil => simp [vs_nil]
  | cons k m ih =>
    rw [List.map_cons, vs_cons, vs_cons, vs_cons]
    push_cast
    rw [ih]
    have e0 : (((j + k : Nat) : Int) + 0).toNat = j + k := by omega
    have e1 : ((k : Int) + 1).toNat = k + 1 := by omega
    have e2 : ((k : Int) + 0).toNat = k := by omega
    have e3 : ((j : Int) + k + 0).toNat = j + k := by omega
    rw [e1, e2, e3]
    have hF : (F (j + k) : Int) = F j * F (k + 1) + F (j + 1) * F k - F j * F k := by
      match k with
      | 0 => simp [F]
      | k + 1 =>
        have := F_add j k
        have e : F (k + 1 + 1) = F (k + 1) + F k := F_step k
        have : F (j + (k + 1)) = F (j + 1) * F (k + 1) + F j * F k := this
        rw [this, e]
        push_cast
        grind
    rw [hF]
    grind
theorem vs_map_one (j : Nat) (m : List Nat) : vs 1 (m.map (j + ·)) = F (j + 1) * vs 1 m + F j * vs 0 m := by
  induction m with
  | nil => simp [vs_nil]
  | cons k m ih =>
    rw [List.map_cons, vs_cons, vs_cons, vs_cons, ih]
    have e0 : (((j + k : Nat) : Int) + 1).toNat = j + k + 1 := by omega
    have e1 : ((k : Int) + 1).toNat = k + 1 := by omega
    have e2 : ((k : Int) + 0).toNat = k := by omega
    rw [e0, e1, e2, F_add]
    simp only [Nat.mul_add]
    omega
theorem circ_eq (l m : List Nat) : (circ l m : Int) = (vs 0 l : Int) * vs 1 m + (vs 1 l : Int) * vs 0 m - (vs 0 l : Int) * vs 0 m := by
  unfold circ
  induction l with
  | nil => simp [sums, vs_nil]
  | cons j l ih =>
    rw [sums, vs_append, vs_cons, vs_cons]
    push_cast
    rw [ih, vs_map_zero]
    have e1 : ((j : Int) + 1).toNat = j + 1 := by omega
    have e2 : ((j : Int) + 0).toNat = j := by omega
    rw [e1, e2]
    grind
theorem circ_one (l m : List Nat) : vs 1 (sums l m) = vs 1 l * vs 1 m + vs 0 l * vs 0 m := by
  induction l with
  | nil => simp [sums, vs_nil]
  | cons j l ih =>
    rw [sums, vs_append, vs_cons, vs_cons, ih, vs_map_one]
    have e1 : ((j : Int) + 1).toNat = j + 1 := by omega
    have e2 : ((j : Int) + 0).toNat = j := by omega
    rw [e1, e2]
    simp only [Nat.add_mul]
    omega
theorem circ_comm (l m : List Nat) : circ l m = circ m l := by
  have h1 := circ_eq l m
  have h2 := circ_eq m l
  have : (circ l m : Int) = circ m l := by rw [h1, h2]; grind
  omega

theorem S_append (N : Nat) (l m : List Nat) : S N (l ++ m) = S N l + S N m := by
  induction l with
  | nil => simp [S]
  | cons a l ih => rw [List.cons_append, S, S, ih]; omega
theorem S_map (N j : Nat) (m : List Nat) : S N (m.map (j + ·)) = sgn j * S (N - j) m := by
  induction m with
  | nil => simp [S]
  | cons k m ih =>
    rw [List.map_cons, S, S, ih, sgn_add, show N - (j + k) = N - j - k by omega, Int.mul_add, Int.mul_assoc]
theorem mul_sgn {j : Nat} {x a b : Int} (h1 : -a ≤ x) (h2 : x ≤ b) : -a ≤ sgn j * x ∧ sgn j * x ≤ b ∨ -b ≤ sgn j * x ∧ sgn j * x ≤ a := by
  rcases sgn_cases j with s | s <;> rw [s] <;> omega
/-- the window of all sums -/
theorem sums_window (N : Nat) (l m : List Nat) (K : Nat) (hl : Falls K l) (hm : Falls 60 m) (h1 : 1 ≤ K) (hK : K ≤ 60) (hN : 130 ≤ N) :
    S N (sums l m) ≤ G (N - 1) - G (N - K - 1) ∧ - G (N - 2) + G (N - K - 1) ≤ S N (sums l m) := by
  have term : ∀ a, 2 ≤ a → a ≤ 60 → S N (m.map (a + ·)) ≤ G (N - a - 1) ∧ - G (N - a - 1) ≤ S N (m.map (a + ·)) ∧ (a = 2 → - G (N - 4) ≤ S N (m.map (a + ·))) := by
    intro a ha ha2
    have u := S_upper (N - a) m 60 hm (by omega)
    have lo := S_lower (N - a) m 60 hm (by omega) (by omega)
    have p := G_nonneg (N - a - 60 - 1)
    have q := G_mono (show N - a - 2 ≤ N - a - 1 by omega)
    rw [S_map]
    refine ⟨?_, ?_, ?_⟩
    · rcases sgn_cases a with s | s <;> rw [s] <;> omega
    · rcases sgn_cases a with s | s <;> rw [s] <;> omega
    · intro e
      subst e
      have : sgn 2 = 1 := rfl
      rw [this, show N - 4 = N - 2 - 2 by omega]
      omega
  clear hm
  constructor
  · clear h1
    induction l generalizing K with
    | nil =>
      have := G_mono (show N - K - 1 ≤ N - 1 by omega)
      simp only [sums, S]; omega
    | cons a l ih =>
      obtain ⟨h2, hk, hl⟩ := hl
      have := ih (a - 2) hl (by omega)
      have mm := G_mono (show N - K - 1 ≤ N - a - 1 by omega)
      have e : G (N - (a - 2) - 1) = G (N - a) + G (N - a - 1) := by
        have := G_step (N - a - 1)
        rw [show N - a - 1 + 2 = N - (a - 2) - 1 by omega, show N - a - 1 + 1 = N - a by omega] at this
        exact this
      have t := (term a h2 (by omega)).1
      have mm2 := G_mono (show N - a - 1 ≤ N - a by omega)
      rw [sums, S_append]
      omega
  · induction l generalizing K with
    | nil =>
      have := G_mono (show N - K - 1 ≤ N - 2 by omega)
      simp only [sums, S]; omega
    | cons a l ih =>
      obtain ⟨h2, hk, hl⟩ := hl
      have mm := G_mono (show N - K - 1 ≤ N - a - 1 by omega)
      have t := term a h2 (by omega)
      by_cases ha : a = 2
      · subst ha
        have : l = [] := by
          match l, hl with
          | [], _ => rfl
          | b :: l, h => have := h.1; have := h.2.1; omega
        subst this
        have t3 := t.2.2 rfl
        have e : G (N - 2) = G (N - 3) + G (N - 4) := by
          have := G_step (N - 4)
          rw [show N - 4 + 2 = N - 2 by omega, show N - 4 + 1 = N - 3 by omega] at this
          exact this
        simp only [sums, List.append_nil]
        rw [show N - 2 - 1 = N - 3 by omega] at mm
        omega
      · have := ih (a - 2) hl (by omega) (by omega)
        have e : G (N - (a - 2) - 1) = G (N - a) + G (N - a - 1) := by
          have := G_step (N - a - 1)
          rw [show N - a - 1 + 2 = N - (a - 2) - 1 by omega, show N - a - 1 + 1 = N - a by omega] at this
          exact this
        have mm2 := G_mono (show N - a - 1 ≤ N - a by omega)
        rw [sums, S_append]
        omega
theorem zero_of_small {d g : Int} (h1 : d * g < g) (h2 : -g < d * g) : d = 0 := by
  have hg : 0 < g := by omega
  rcases Int.lt_trichotomy d 0 with h | h | h
  · have : d * g ≤ (-1) * g := Int.mul_le_mul_of_nonneg_right (by omega) (by omega)
    omega
  · exact h
  · have : 1 * g ≤ d * g := Int.mul_le_mul_of_nonneg_right (by omega) (by omega)
    omega
theorem sums_mem {l m : List Nat} (hl : ∀ k ∈ l, 2 ≤ k ∧ k ≤ 60) (hm : ∀ k ∈ m, 2 ≤ k ∧ k ≤ 60) : ∀ k ∈ sums l m, 1 ≤ k ∧ k ≤ 200 := by
  induction l with
  | nil => intro k h; cases h
  | cons j l ih =>
    intro k hk
    rw [sums, List.mem_append] at hk
    rcases hk with hk | hk
    · obtain ⟨i, hi, rfl⟩ := List.mem_map.1 hk
      have := hm i hi
      have := hl j (List.mem_cons_self ..)
      omega
    · exact ih (fun k hk => hl k (List.mem_cons_of_mem _ hk)) k hk
/-- The shift of a circle product. -/
theorem circ_sh (l m : List Nat) (hl : Falls 60 l) (hm : Falls 60 m) (hs : circ l m ≤ 1000000000000) : sh (circ l m) = vs 1 l * vs 1 m + vs 0 l * vs 0 m := by
  have w := sums_window 200 l m 60 hl hm (by omega) (by omega) (by omega)
  have hz := zeck_falls _ hs
  have u := S_upper 200 _ 60 hz (by omega)
  have lo := S_lower 200 _ 60 hz (by omega) (by omega)
  have e1 := S_eq 200 (sums l m) (sums_mem (falls_mem hl) (falls_mem hm))
  have e2 := S_eq 200 (zeck (circ l m)) (fun k hk => by have := falls_mem hz k hk; omega)
  have h0 : vs 0 (zeck (circ l m)) = circ l m := by rw [vs_zero]; exact zeck_sum _ hs
  rw [h0] at e2
  rw [circ_one] at e1
  have hsum : vs 0 (sums l m) = circ l m := rfl
  rw [hsum] at e1
  have g : G 200 = G 199 + G 198 := G_step 198
  have p := G_pos 139 (by omega)
  have hsh : vs 1 (zeck (circ l m)) = sh (circ l m) := rfl
  rw [hsh] at e2
  simp only [Nat.reduceSub] at w u lo
  have hd : (((vs 1 l * vs 1 m + vs 0 l * vs 0 m : Nat) : Int) - (sh (circ l m) : Int)) = 0 := by
    apply zero_of_small (g := G 200)
    · rw [Int.sub_mul]; omega
    · rw [Int.sub_mul]; omega
  omega
/-- brackets do not matter -/
theorem circ_assoc (a b c : Nat) (ha : a ≤ 1000000000000) (hb : b ≤ 1000000000000) (hc : c ≤ 1000000000000)
    (hx : circ (zeck a) (zeck b) ≤ 1000000000000) (hz : circ (zeck b) (zeck c) ≤ 1000000000000) :
    circ (zeck (circ (zeck a) (zeck b))) (zeck c) = circ (zeck a) (zeck (circ (zeck b) (zeck c))) := by
  have v0 : ∀ n, n ≤ 1000000000000 → vs 0 (zeck n) = n := fun n hn => by rw [vs_zero]; exact zeck_sum n hn
  have s1 := circ_sh (zeck a) (zeck b) (zeck_falls a ha) (zeck_falls b hb) hx
  have s2 := circ_sh (zeck b) (zeck c) (zeck_falls b hb) (zeck_falls c hc) hz
  have x1 := circ_eq (zeck a) (zeck b)
  have z1 := circ_eq (zeck b) (zeck c)
  have l1 := circ_eq (zeck (circ (zeck a) (zeck b))) (zeck c)
  have r1 := circ_eq (zeck a) (zeck (circ (zeck b) (zeck c)))
  rw [v0 _ hx, v0 c hc] at l1
  rw [v0 a ha, v0 _ hz] at r1
  rw [v0 a ha, v0 b hb] at s1 x1
  rw [v0 b hb, v0 c hc] at s2 z1
  have t1 : vs 1 (zeck (circ (zeck a) (zeck b))) = sh (circ (zeck a) (zeck b)) := rfl
  have t2 : vs 1 (zeck (circ (zeck b) (zeck c))) = sh (circ (zeck b) (zeck c)) := rfl
  rw [t1, s1] at l1
  rw [t2, s2] at r1
  have : (circ (zeck (circ (zeck a) (zeck b))) (zeck c) : Int) = circ (zeck a) (zeck (circ (zeck b) (zeck c))) := by
    rw [l1, r1, x1, z1]
    push_cast
    grind
  omega
theorem zeck_one : zeck 1 = [2] := by decide +kernel
theorem sums_two (l : List Nat) : sums [2] l = l.map (2 + ·) := by simp [sums]
theorem circ_two (l : List Nat) : circ [2] l = vs 1 l + vs 0 l := by
  have := circ_eq [2] l
  have h0 : vs 0 [2] = 1 := rfl
  have h1 : vs 1 [2] = 2 := rfl
  rw [h0, h1] at this
  omega
end Go.Proofs.Ytiknocjdogbajaa
