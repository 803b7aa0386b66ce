/- Mathematics of PartsKinds: partitions with gaps by the smallest part and by the greatest one; no program. -/
import Derived.Test.YtpgpkgnljoedaaaCu
namespace Go.Proofs.Ytpgpkgnljoedaaa

/-- h(n - p, p + g) + h(n - (p + 1), p + 1 + g) + .., k of them -/
def gsum (h : Nat → Nat → Nat) (g n p : Nat) : Nat → Nat
  | 0 => 0
  | k + 1 => gsum h g n p k + h (n - (p + k)) (p + k + g)
def gapF (g : Nat) : Nat → Nat → Nat → Nat
  | 0, n, _ => if n = 0 then 1 else 0
  | f + 1, n, p => if n = 0 then 1 else gsum (gapF g f) g n p (n + 1 - p)
/-- how many partitions of n have parts from p on, any two of which differ by at least g -/
def gap (g n p : Nat) : Nat := gapF g n n p
theorem gsum_congr {h h' : Nat → Nat → Nat} {g n p : Nat} : ∀ k, (∀ i, i < k → h (n - (p + i)) (p + i + g) = h' (n - (p + i)) (p + i + g)) → gsum h g n p k = gsum h' g n p k
  | 0, _ => rfl
  | k + 1, H => by rw [gsum, gsum, gsum_congr k (fun i hi => H i (by omega)), H k (by omega)]
theorem gapF_fuel (g : Nat) : ∀ f n p, n ≤ f → 1 ≤ p → gapF g f n p = gapF g n n p := by
  intro f
  induction f using Nat.strongRecOn with
  | _ f ih =>
    intro n p hn hp
    match f, n, ih, hn with
    | 0, 0, _, _ => rfl
    | f + 1, 0, _, _ => simp [gapF]
    | f + 1, n + 1, ih, hn =>
      rw [gapF, if_neg (by omega), gapF, if_neg (by omega)]
      refine gsum_congr _ (fun i hi => ?_)
      rw [ih f (by omega) (n + 1 - (p + i)) (p + i + g) (by omega) (by omega), ih n (by omega) (n + 1 - (p + i)) (p + i + g) (by omega) (by omega)]
theorem gap_zero (g p : Nat) : gap g 0 p = 1 := rfl
theorem gap_pos (g n p : Nat) (hn : 1 ≤ n) (hp : 1 ≤ p) : gap g n p = gsum (gap g) g n p (n + 1 - p) := by
  obtain ⟨m, rfl⟩ : ∃ m, n = m + 1 := ⟨n - 1, by omega⟩
  unfold gap
  rw [gapF, if_neg (by omega)]
  exact gsum_congr _ (fun i hi => gapF_fuel g m _ _ (by omega) (by omega))
theorem gsum_shift (h : Nat → Nat → Nat) (g n p : Nat) : ∀ k, gsum h g n p (k + 1) = h (n - p) (p + g) + gsum h g n (p + 1) k
  | 0 => by simp [gsum]
  | k + 1 => by
    rw [gsum, gsum_shift h g n p k, gsum, show p + (k + 1) = p + 1 + k by omega]
    omega
theorem gap_step (g n p : Nat) (hn : 1 ≤ n) (hp : 1 ≤ p) : gap g n p = (if p ≤ n then gap g (n - p) (p + g) else 0) + gap g n (p + 1) := by
  rw [gap_pos g n p hn hp, gap_pos g n (p + 1) hn (by omega)]
  by_cases h : p ≤ n
  · rw [if_pos h, show n + 1 - p = (n - p) + 1 by omega, gsum_shift, show n + 1 - (p + 1) = n - p by omega]
  · rw [if_neg h, show n + 1 - p = 0 by omega, show n + 1 - (p + 1) = 0 by omega]
    rfl
theorem gap_succ_le (g n p : Nat) (hp : 1 ≤ p) : gap g n (p + 1) ≤ gap g n p := by
  rcases Nat.eq_zero_or_pos n with rfl | hn
  · exact Nat.le_refl _
  · rw [gap_step g n p hn hp]; omega
theorem gap_le_one (g n p : Nat) (hp : 1 ≤ p) : gap g n p ≤ gap g n 1 := by
  induction p with
  | zero => omega
  | succ p ih =>
    rcases Nat.eq_zero_or_pos p with rfl | h
    · exact Nat.le_refl _
    · exact Nat.le_trans (gap_succ_le g n p h) (ih h)
theorem gsum_mono (h : Nat → Nat → Nat) (g n p k : Nat) : ∀ m, k ≤ m → gsum h g n p k ≤ gsum h g n p m := by
  intro m
  induction m with
  | zero => intro hk; obtain rfl : k = 0 := (by omega); exact Nat.le_refl _
  | succ m ih =>
    intro hk
    by_cases e : k = m + 1
    · subst e; exact Nat.le_refl _
    · have := ih (by omega); rw [gsum]; omega

/-! ### tables -/
def zs (k : Nat) (a b : List Nat) : List Nat := List.zipWith (· + ·) a (List.replicate k 0 ++ b)
theorem zs_get (k m : Nat) (a b : List Nat) (x y : Nat → Nat) (ha : a.length = m + 1) (hb : b.length = m + 1) (hx : ∀ i, i < m + 1 → a[i]? = some (x i)) (hy : ∀ i, i < m + 1 → b[i]? = some (y i)) :
    (zs k a b).length = m + 1 ∧ ∀ i, i < m + 1 → (zs k a b)[i]? = some (x i + if k ≤ i then y (i - k) else 0) := by
  unfold zs
  refine ⟨by rw [List.length_zipWith, List.length_append, List.length_replicate]; omega, fun i hi => ?_⟩
  rw [List.getElem?_zipWith, hx i hi]
  by_cases h : k ≤ i
  · rw [if_pos h, List.getElem?_append_right (by rw [List.length_replicate]; exact h), List.length_replicate, hy (i - k) (by omega)]
  · rw [if_neg h, List.getElem?_append_left (by rw [List.length_replicate]; omega), List.getElem?_replicate, if_pos (by omega)]
def one : List Nat := 1 :: List.replicate 100 0
theorem one_get : one.length = 100 + 1 ∧ ∀ i, i < 100 + 1 → one[i]? = some (if i = 0 then 1 else 0) := by
  refine ⟨by simp [one], fun i hi => ?_⟩
  unfold one
  cases i with
  | zero => rfl
  | succ i =>
    rw [if_neg (by omega)]
    show (List.replicate 100 0)[i]? = some 0
    rw [List.getElem?_replicate, if_pos (by omega)]
def gapT (g : Nat) : Nat → List (List Nat)
  | 0 => []
  | k + 1 => zs (101 - k) ((gapT g k).getD 0 one) ((gapT g k).getD (g - 1) one) :: gapT g k
theorem gapT_get (g : Nat) (hg : 1 ≤ g) : ∀ k, k ≤ 101 → ∀ p, 102 - k ≤ p → ((gapT g k).getD (p - (102 - k)) one).length = 100 + 1 ∧ ∀ i, i < 100 + 1 → ((gapT g k).getD (p - (102 - k)) one)[i]? = some (gap g i p) := by
  intro k
  induction k with
  | zero =>
    intro _ p hp
    rw [show (gapT g 0).getD (p - (102 - 0)) one = one from rfl]
    refine ⟨one_get.1, fun i hi => ?_⟩
    rw [one_get.2 i hi]
    by_cases h : i = 0
    · subst h; rfl
    · rw [if_neg h, gap_pos g i p (by omega) (by omega), show i + 1 - p = 0 by omega]; rfl
  | succ k ih =>
    intro hk p hp
    by_cases e : p = 101 - k
    · subst e
      rw [show 101 - k - (102 - (k + 1)) = 0 by omega, show (gapT g (k + 1)).getD 0 one = zs (101 - k) ((gapT g k).getD 0 one) ((gapT g k).getD (g - 1) one) from rfl]
      have h1 := ih (by omega) (102 - k) (by omega)
      have h2 := ih (by omega) (101 - k + g) (by omega)
      rw [show 102 - k - (102 - k) = 0 by omega] at h1
      rw [show 101 - k + g - (102 - k) = g - 1 by omega] at h2
      have h3 := zs_get (101 - k) 100 _ _ (fun i => gap g i (102 - k)) (fun i => gap g i (101 - k + g)) h1.1 h2.1 h1.2 h2.2
      refine ⟨h3.1, fun i hi => ?_⟩
      rw [h3.2 i hi]
      congr 1
      rcases Nat.eq_zero_or_pos i with rfl | hi0
      · rw [if_neg (by omega)]; rfl
      · rw [gap_step g i (101 - k) hi0 (by omega), show 101 - k + 1 = 102 - k by omega]
        show gap g i (102 - k) + (if 101 - k ≤ i then gap g (i - (101 - k)) (101 - k + g) else 0) = _
        omega
    · obtain ⟨q, hq⟩ : ∃ q, p - (102 - (k + 1)) = q + 1 := ⟨p - (102 - (k + 1)) - 1, by omega⟩
      rw [hq, show (gapT g (k + 1)).getD (q + 1) one = (gapT g k).getD q one from rfl, show q = p - (102 - k) by omega]
      exact ih (by omega) p (by omega)
/-- parts at most once, part by part -/
def Uw : Nat → Nat → Nat
  | 0, j => if j = 0 then 1 else 0
  | p + 1, j => Uw p j + if p + 1 ≤ j then Uw p (j - (p + 1)) else 0
def rowU : Nat → List Nat
  | 0 => one
  | p + 1 => zs (p + 1) (rowU p) (rowU p)
theorem rowU_get : ∀ p, (rowU p).length = 100 + 1 ∧ ∀ i, i < 100 + 1 → (rowU p)[i]? = some (Uw p i)
  | 0 => one_get
  | p + 1 => zs_get (p + 1) 100 _ _ (Uw p) (Uw p) (rowU_get p).1 (rowU_get p).1 (rowU_get p).2 (rowU_get p).2
theorem Uw_mono (j : Nat) (p : Nat) : ∀ q, p ≤ q → Uw p j ≤ Uw q j := by
  intro q
  induction q with
  | zero => intro h; obtain rfl : p = 0 := (by omega); exact Nat.le_refl _
  | succ q ih =>
    intro h
    by_cases e : p = q + 1
    · subst e; exact Nat.le_refl _
    · have := ih (by omega); rw [Uw]; omega
theorem Uw_stop (j : Nat) : ∀ p, j ≤ p → Uw p j = Uw j j := by
  intro p
  induction p with
  | zero => intro h; obtain rfl : j = 0 := (by omega); rfl
  | succ p ih =>
    intro h
    by_cases e : j = p + 1
    · subst e; rfl
    · rw [Uw, if_neg (by omega), Nat.add_zero, ih (by omega)]
/-- parts of at most x that differ by two; whether 1 may be one -/
def Ww (b : Bool) : Nat → Nat → Nat
  | 0, m => if m = 0 then 1 else 0
  | 1, m => (if m = 0 then 1 else 0) + if b = true ∧ 1 ≤ m then (if m - 1 = 0 then 1 else 0) else 0
  | x + 2, m => Ww b (x + 1) m + if x + 2 ≤ m then Ww b x (m - (x + 2)) else 0
def rowsW (b : Bool) : Nat → List Nat × List Nat
  | 0 => (one, if b then zs 1 one one else one)
  | x + 1 => ((rowsW b x).2, zs (x + 2) (rowsW b x).2 (rowsW b x).1)
theorem rowsW_get (b : Bool) : ∀ x, ((rowsW b x).1.length = 100 + 1 ∧ ∀ i, i < 100 + 1 → (rowsW b x).1[i]? = some (Ww b x i)) ∧ ((rowsW b x).2.length = 100 + 1 ∧ ∀ i, i < 100 + 1 → (rowsW b x).2[i]? = some (Ww b (x + 1) i))
  | 0 => by
    refine ⟨one_get, ?_⟩
    cases b with
    | true =>
      have := zs_get 1 100 _ _ (fun i => if i = 0 then 1 else 0) (fun i => if i = 0 then 1 else 0) one_get.1 one_get.1 one_get.2 one_get.2
      refine ⟨this.1, fun i hi => ?_⟩
      rw [show (rowsW true 0).2 = zs 1 one one from rfl, this.2 i hi]
      simp [Ww]
    | false =>
      refine ⟨one_get.1, fun i hi => ?_⟩
      rw [show (rowsW false 0).2 = one from rfl, one_get.2 i hi]
      simp [Ww]
  | x + 1 => by
    have h := rowsW_get b x
    refine ⟨h.2, ?_⟩
    exact zs_get (x + 2) 100 _ _ (Ww b (x + 1)) (Ww b x) h.2.1 h.1.1 h.2.2 h.1.2
theorem Ww_zero (b : Bool) : ∀ x, Ww b x 0 = 1
  | 0 => rfl
  | 1 => by simp [Ww]
  | x + 2 => by rw [Ww, Ww_zero b (x + 1), if_neg (by omega)]
theorem Ww_none (b : Bool) (m : Nat) (h : 1 ≤ m) : Ww b 0 m = 0 := by rw [Ww, if_neg (by omega)]
/-- the reference's step -/
theorem Ww_step (b : Bool) (x m : Nat) : Ww b (x + 1) m = Ww b x m + if x + 1 ≤ m ∧ (1 ≤ x ∨ b = true) then Ww b (x - 1) (m - (x + 1)) else 0 := by
  match x with
  | 0 =>
    rw [Ww, Ww]
    cases b <;> simp [Ww]
  | x + 1 =>
    rw [Ww]
    by_cases h : x + 2 ≤ m
    · rw [if_pos h, if_pos ⟨h, .inl (by omega)⟩]; rfl
    · rw [if_neg h, if_neg (fun e => h e.1)]
theorem Ww_mono (b : Bool) (m x : Nat) : ∀ y, x ≤ y → Ww b x m ≤ Ww b y m := by
  intro y
  induction y with
  | zero => intro h; obtain rfl : x = 0 := (by omega); exact Nat.le_refl _
  | succ y ih =>
    intro h
    by_cases e : x = y + 1
    · subst e; exact Nat.le_refl _
    · have := ih (by omega); rw [Ww_step]; omega
/-! ### the tables agree -/
def odd1 (x : Nat) : Bool := x % 2 == 1
def res1 (x : Nat) : Bool := x % 5 == 1 || x % 5 == 4
def res2 (x : Nat) : Bool := x % 5 == 2 || x % 5 == 3
theorem chk0 : (gapT 1 101).getD 0 one = rowU 100 := by decide +kernel
theorem chk2 : (gapT 2 101).getD 0 one = (rowsW true 101).1 := by decide +kernel
theorem chk4 : (gapT 2 101).getD 1 one = (rowsW false 101).1 := by decide +kernel
theorem chk1 : (gapT 1 101).getD 0 one = rowT odd1 100 100 := by decide +kernel
theorem chk3 : (gapT 2 101).getD 0 one = rowT res1 100 100 := by decide +kernel
theorem chk5 : (gapT 2 101).getD 1 one = rowT res2 100 100 := by decide +kernel
theorem chkb : (rowU 100).all (fun x => decide (x ≤ 1000000)) = true ∧ (rowsW true 101).1.all (fun x => decide (x ≤ 1000000)) = true := by decide +kernel
theorem gap_at (g p : Nat) (hg : 1 ≤ g) (hp : 1 ≤ p) (n : Nat) (hn : n ≤ 100) : ((gapT g 101).getD (p - 1) one)[n]? = some (gap g n p) := (gapT_get g hg 101 (Nat.le_refl _) p (by omega)).2 n (by omega)
theorem gap_U (n : Nat) (hn : n ≤ 100) : gap 1 n 1 = Uw n n := by
  have h := gap_at 1 1 (by omega) (by omega) n hn
  rw [chk0, (rowU_get 100).2 n (by omega), Uw_stop n 100 hn] at h
  exact (Option.some.inj h).symm
theorem gap_W1 (n : Nat) (hn : n ≤ 100) : gap 2 n 1 = Ww true 101 n := by
  have h := gap_at 2 1 (by omega) (by omega) n hn
  rw [chk2, (rowsW_get true 101).1.2 n (by omega)] at h
  exact (Option.some.inj h).symm
theorem gap_W2 (n : Nat) (hn : n ≤ 100) : gap 2 n 2 = Ww false 101 n := by
  have h := gap_at 2 2 (by omega) (by omega) n hn
  rw [chk4, (rowsW_get false 101).1.2 n (by omega)] at h
  exact (Option.some.inj h).symm
theorem gap_V1 (n : Nat) (hn : n ≤ 100) : gap 1 n 1 = V odd1 n n := by
  have h := gap_at 1 1 (by omega) (by omega) n hn
  rw [chk1, (rowT_get odd1 100 100).2 n (by omega), V_stop odd1 n 100 hn] at h
  exact (Option.some.inj h).symm
theorem gap_V3 (n : Nat) (hn : n ≤ 100) : gap 2 n 1 = V res1 n n := by
  have h := gap_at 2 1 (by omega) (by omega) n hn
  rw [chk3, (rowT_get res1 100 100).2 n (by omega), V_stop res1 n 100 hn] at h
  exact (Option.some.inj h).symm
theorem gap_V5 (n : Nat) (hn : n ≤ 100) : gap 2 n 2 = V res2 n n := by
  have h := gap_at 2 2 (by omega) (by omega) n hn
  rw [chk5, (rowT_get res2 100 100).2 n (by omega), V_stop res2 n 100 hn] at h
  exact (Option.some.inj h).symm
theorem Uw_bd (p j : Nat) (hp : p ≤ 100) (hj : j ≤ 100) : Uw p j ≤ 1000000 := by
  have h1 := Uw_mono j p 100 hp
  have h2 := List.all_eq_true.1 chkb.1 _ (List.mem_of_getElem? ((rowU_get 100).2 j (by omega)))
  simp only [decide_eq_true_eq] at h2
  omega
theorem gap_bd (g n p : Nat) (hg : g = 1 ∨ g = 2) (hn : n ≤ 100) (hp : 1 ≤ p) : gap g n p ≤ 1000000 := by
  have h1 := gap_le_one g n p hp
  rcases hg with rfl | rfl
  · have h2 := gap_U n hn
    have h3 := Uw_bd n n hn hn
    omega
  · have h2 := gap_W1 n hn
    have h3 := List.all_eq_true.1 chkb.2 _ (List.mem_of_getElem? ((rowsW_get true 101).1.2 n (by omega)))
    simp only [decide_eq_true_eq] at h3
    omega
theorem Ww_bd (b : Bool) (x n : Nat) (hx : x ≤ 101) (hn : n ≤ 100) : Ww b x n ≤ 1000000 := by
  have h1 := Ww_mono b n x 101 hx
  cases b with
  | true => have := gap_W1 n hn; have := gap_bd 2 n 1 (by omega) hn (by omega); omega
  | false => have := gap_W2 n hn; have := gap_bd 2 n 2 (by omega) hn (by omega); omega
theorem gsum_bd (g n p k : Nat) (hg : g = 1 ∨ g = 2) (h1 : 1 ≤ n) (hn : n ≤ 100) (hp : 1 ≤ p) (hk : k ≤ n + 1 - p) : gsum (gap g) g n p k ≤ 1000000 := by
  have h2 := gsum_mono (gap g) g n p k (n + 1 - p) hk
  rw [← gap_pos g n p h1 hp] at h2
  have := gap_bd g n p hg hn hp
  omega
end Go.Proofs.Ytpgpkgnljoedaaa
