/- Mathematics of Newton polygons: fractions, sides, slopes. -/
namespace Go.Proofs.Ytdkobkghhnccgaa.Np
/-- fractions in lowest terms -/
def frc (a b : Int) : Int × Int := (a / (Int.gcd a b : Nat), b / (Int.gcd a b : Nat))
def Red (q : Int × Int) : Prop := 1 ≤ q.2 ∧ Int.gcd q.1 q.2 = 1
def fle (q r : Int × Int) : Prop := q.1 * r.2 ≤ r.1 * q.2
def flt (q r : Int × Int) : Prop := q.1 * r.2 < r.1 * q.2
theorem frc_spec (a b : Int) (hb : 0 < b) : Red (frc a b) ∧ (frc a b).1 * b = a * (frc a b).2 ∧ (frc a b).2 ≤ b ∧ (frc a b).1.natAbs ≤ a.natAbs := by
  have hg : 0 < Int.gcd a b := Int.gcd_pos_of_ne_zero_right _ (by omega)
  obtain ⟨k, hk⟩ := Int.gcd_dvd_right a b
  obtain ⟨l, hl⟩ := Int.gcd_dvd_left a b
  have h1 := Int.gcd_ediv_gcd_ediv_gcd hg
  have e2 : b / ((Int.gcd a b : Nat) : Int) = k := by
    conv => lhs; arg 1; rw [hk]
    exact Int.mul_ediv_cancel_left _ (by omega)
  have e1 : a / ((Int.gcd a b : Nat) : Int) = l := by
    conv => lhs; arg 1; rw [hl]
    exact Int.mul_ediv_cancel_left _ (by omega)
  unfold Red frc
  simp only
  rw [e1, e2] at h1 ⊢
  generalize ((Int.gcd a b : Nat)) = g at *
  have hk0 : 0 < k := by
    rcases Int.lt_or_le 0 k with h | h
    · exact h
    · have := Int.mul_nonpos_of_nonneg_of_nonpos (show (0:Int) ≤ g by omega) h; omega
  have hg1 : (1 : Int) ≤ g := by omega
  refine ⟨⟨by omega, h1⟩, ?_, ?_, ?_⟩
  · rw [hk, hl]; grind
  · have := Int.mul_le_mul_of_nonneg_right hg1 (show 0 ≤ k by omega); omega
  · rw [hl, Int.natAbs_mul]
    exact Nat.le_mul_of_pos_left _ (by omega)
theorem Red.eq {q r : Int × Int} (h1 : Red q) (h2 : Red r) (h : q.1 * r.2 = r.1 * q.2) : q = r := by
  obtain ⟨a, b⟩ := q
  obtain ⟨c, d⟩ := r
  obtain ⟨hb, hg⟩ := h1
  obtain ⟨hd, hk⟩ := h2
  simp only at *
  have db : b ∣ d := by
    have : b ∣ a * d := ⟨c, by rw [h]; grind⟩
    have h3 := Int.gcd_mul_left_right_of_gcd_eq_one (n := b) (m := a) (k := d) (by rw [Int.gcd_comm]; exact hg)
    have h5 : Int.gcd b (d * a) = b.natAbs := Int.gcd_eq_natAbs_left (by rw [Int.mul_comm]; exact this)
    rw [Int.mul_comm] at h5
    have h6 : Int.gcd b d = b.natAbs := by
      rw [← Int.gcd_mul_right_right_of_gcd_eq_one (n := b) (m := a) (k := d) (by rw [Int.gcd_comm]; exact hg)]; exact h5
    exact Int.gcd_eq_natAbs_left_iff_dvd.1 h6
  have bd : d ∣ b := by
    have : d ∣ c * b := ⟨a, by rw [← h]; grind⟩
    have h5 : Int.gcd d (c * b) = d.natAbs := Int.gcd_eq_natAbs_left this
    have h6 : Int.gcd d b = d.natAbs := by
      rw [← Int.gcd_mul_right_right_of_gcd_eq_one (n := d) (m := c) (k := b) (by rw [Int.gcd_comm]; exact hk)]; exact h5
    exact Int.gcd_eq_natAbs_left_iff_dvd.1 h6
  have e := Int.le_of_dvd (by omega) db
  have e2 := Int.le_of_dvd (by omega) bd
  have eb : b = d := by omega
  subst eb
  have : a = c := by
    have := Int.eq_of_mul_eq_mul_right (show b ≠ 0 by omega) h
    exact this
  rw [this]
theorem fle_trans {q r s : Int × Int} (hq : 1 ≤ q.2) (hr : 1 ≤ r.2) (hs : 1 ≤ s.2) (h1 : fle q r) (h2 : fle r s) : fle q s := by
  unfold fle at *
  have h3 := Int.mul_le_mul_of_nonneg_right h1 (show 0 ≤ s.2 by omega)
  have h4 := Int.mul_le_mul_of_nonneg_right h2 (show 0 ≤ q.2 by omega)
  refine Int.le_of_mul_le_mul_right (a := r.2) ?_ (by omega)
  grind
theorem flt_of_lt_le {q r s : Int × Int} (hq : 1 ≤ q.2) (hr : 1 ≤ r.2) (hs : 1 ≤ s.2) (h1 : flt q r) (h2 : fle r s) : flt q s := by
  unfold fle flt at *
  have h3 := Int.mul_lt_mul_of_pos_right h1 (show 0 < s.2 by omega)
  have h4 := Int.mul_le_mul_of_nonneg_right h2 (show 0 ≤ q.2 by omega)
  refine Int.lt_of_mul_lt_mul_right (a := r.2) ?_ (by omega)
  grind
theorem flt_of_le_lt {q r s : Int × Int} (hq : 1 ≤ q.2) (hr : 1 ≤ r.2) (hs : 1 ≤ s.2) (h1 : fle q r) (h2 : flt r s) : flt q s := by
  unfold fle flt at *
  have h3 := Int.mul_le_mul_of_nonneg_right h1 (show 0 ≤ s.2 by omega)
  have h4 := Int.mul_lt_mul_of_pos_right h2 (show 0 < q.2 by omega)
  refine Int.lt_of_mul_lt_mul_right (a := r.2) ?_ (by omega)
  grind
theorem flt_trans {q r s : Int × Int} (hq : 1 ≤ q.2) (hr : 1 ≤ r.2) (hs : 1 ≤ s.2) (h1 : flt q r) (h2 : flt r s) : flt q s :=
  flt_of_lt_le hq hr hs h1 (by unfold fle flt at *; omega)
/-- comparing in lowest terms is comparing -/
theorem fle_frc (a b c d : Int) (hb : 0 < b) (hd : 0 < d) : fle (frc a b) (frc c d) ↔ a * d ≤ c * b := by
  obtain ⟨⟨h1, _⟩, h2, _⟩ := frc_spec a b hb
  obtain ⟨⟨h3, _⟩, h4, _⟩ := frc_spec c d hd
  have hx : fle (frc a b) (a, b) := by unfold fle; simp only; omega
  have hx' : fle (a, b) (frc a b) := by unfold fle; simp only; omega
  have hy : fle (frc c d) (c, d) := by unfold fle; simp only; omega
  have hy' : fle (c, d) (frc c d) := by unfold fle; simp only; omega
  constructor
  · intro h
    exact fle_trans (show 1 ≤ ((a, b) : Int × Int).2 by simp only; omega) h1 (show 1 ≤ ((c, d) : Int × Int).2 by simp only; omega) hx' (fle_trans h1 h3 (by simp only; omega) h hy)
  · intro h
    exact fle_trans h1 (show 1 ≤ ((a, b) : Int × Int).2 by simp only; omega) h3 hx (fle_trans (by simp only; omega) (show 1 ≤ ((c, d) : Int × Int).2 by simp only; omega) h3 h hy')
theorem flt_frc (a b c d : Int) (hb : 0 < b) (hd : 0 < d) : flt (frc a b) (frc c d) ↔ a * d < c * b := by
  have := fle_frc c d a b hd hb
  unfold fle flt at *
  omega

/-- the next corner: S the places of coefficients other than 0, o their orders, N how many places there are -/
def Next (S : Nat → Prop) (o : Nat → Int) (N k b : Nat) : Prop :=
  k < b ∧ b < N ∧ S b ∧ (∀ j, k < j → j < N → S j → (o b - o k) * ((j : Int) - k) ≤ (o j - o k) * ((b : Int) - k)) ∧
    ∀ j, b < j → j < N → S j → (o b - o k) * ((j : Int) - k) < (o j - o k) * ((b : Int) - k)
theorem Next.eq {S : Nat → Prop} {o : Nat → Int} {N k b b' : Nat} (h : Next S o N k b) (h' : Next S o N k b') : b = b' := by
  obtain ⟨h1, h2, h3, h4, h5⟩ := h
  obtain ⟨g1, g2, g3, g4, g5⟩ := h'
  rcases Nat.lt_trichotomy b b' with e | e | e
  · have := h5 b' e g2 g3; have := g4 b h1 h2 h3; omega
  · exact e
  · have := g5 b e h2 h3; have := h4 b' g1 g2 g3; omega
/-- a side: from, to, slope -/
abbrev Sd := Nat × Nat × (Int × Int)
/-- the sides from a corner on -/
inductive Sides (S : Nat → Prop) (o : Nat → Int) (N : Nat) : Nat → List Sd → Prop
  | done {k : Nat} : k + 1 = N → Sides S o N k []
  | step {k b : Nat} {L : List Sd} : Next S o N k b → Sides S o N b L → Sides S o N k ((k, b, frc (o b - o k) ((b : Int) - k)) :: L)
theorem Sides.eq {S : Nat → Prop} {o : Nat → Int} {N k : Nat} {L L' : List Sd} (h : Sides S o N k L) (h' : Sides S o N k L') : L = L' := by
  induction h generalizing L' with
  | done e =>
    cases h' with
    | done _ => rfl
    | step n _ => have := n.1; have := n.2.1; omega
  | step n _ ih =>
    cases h' with
    | done e => have := n.1; have := n.2.1; omega
    | step n' t' => obtain rfl := n.eq n'; rw [ih t']
/-- all slopes -/
def slopes (L : List Sd) : List (Int × Int) := L.flatMap fun s => List.replicate (s.2.1 - s.1) s.2.2
/-- the order less a slope's line -/
def vl (o : Nat → Int) (q : Int × Int) (i : Nat) : Int := q.2 * o i - q.1 * i
/-- the first, and the last place from k on at which vl is least -/
def Fst (S : Nat → Prop) (o : Nat → Int) (N k : Nat) (q : Int × Int) (i : Nat) : Prop :=
  k ≤ i ∧ i < N ∧ S i ∧ (∀ j, k ≤ j → j < N → S j → vl o q i ≤ vl o q j) ∧ ∀ j, k ≤ j → j < i → S j → vl o q i < vl o q j
def Lst (S : Nat → Prop) (o : Nat → Int) (N k : Nat) (q : Int × Int) (i : Nat) : Prop :=
  k ≤ i ∧ i < N ∧ S i ∧ (∀ j, k ≤ j → j < N → S j → vl o q i ≤ vl o q j) ∧ ∀ j, i < j → j < N → S j → vl o q i < vl o q j
theorem Fst.eq {S : Nat → Prop} {o : Nat → Int} {N k : Nat} {q : Int × Int} {i j : Nat} (h : Fst S o N k q i) (h' : Fst S o N k q j) : i = j := by
  obtain ⟨h1, h2, h3, h4, h5⟩ := h
  obtain ⟨g1, g2, g3, g4, g5⟩ := h'
  rcases Nat.lt_trichotomy i j with e | e | e
  · have := g5 i h1 e h3; have := h4 j g1 g2 g3; omega
  · exact e
  · have := h5 j g1 e g3; have := g4 i h1 h2 h3; omega
theorem Lst.eq {S : Nat → Prop} {o : Nat → Int} {N k : Nat} {q : Int × Int} {i j : Nat} (h : Lst S o N k q i) (h' : Lst S o N k q j) : i = j := by
  obtain ⟨h1, h2, h3, h4, h5⟩ := h
  obtain ⟨g1, g2, g3, g4, g5⟩ := h'
  rcases Nat.lt_trichotomy i j with e | e | e
  · have := h5 j e g2 g3; have := g4 i h1 h2 h3; omega
  · exact e
  · have := g5 i e h2 h3; have := h4 j g1 g2 g3; omega
/-- a side's slope is less than those behind it -/
theorem next_lt {S : Nat → Prop} {o : Nat → Int} {N k b : Nat} (h : Next S o N k b) {j : Nat} (h1 : b < j) (h2 : j < N) (h3 : S j) :
    flt (frc (o b - o k) ((b : Int) - k)) (frc (o j - o b) ((j : Int) - b)) := by
  obtain ⟨g1, g2, g3, g4, g5⟩ := h
  rw [flt_frc _ _ _ _ (by omega) (by omega)]
  have := g5 j h1 h2 h3
  grind
theorem Sides.rise {S : Nat → Prop} {o : Nat → Int} {N k : Nat} {L : List Sd} (h : Sides S o N k L) :
    L.Pairwise fun s t => flt s.2.2 t.2.2 := by
  have key : ∀ {k : Nat} {L : List Sd}, Sides S o N k L → L.Pairwise (fun s t => flt s.2.2 t.2.2) ∧ ∀ (z : Int × Int), 1 ≤ z.2 → (∀ b, Next S o N k b → flt z (frc (o b - o k) ((b : Int) - k))) → ∀ s ∈ L, flt z s.2.2 := by
    intro k L h
    induction h with
    | done _ => exact ⟨.nil, by simp⟩
    | @step k b L n t ih =>
      obtain ⟨ih1, ih2⟩ := ih
      have hb := (frc_spec (o b - o k) ((b : Int) - k) (by have := n.1; omega)).1
      have hz : ∀ (z : Int × Int), 1 ≤ z.2 → flt z (frc (o b - o k) ((b : Int) - k)) → ∀ s ∈ L, flt z s.2.2 := fun z hz hlt => ih2 z hz fun b' n' => by
        have hb' := (frc_spec (o b' - o b) ((b' : Int) - b) (by have := n'.1; omega)).1
        exact flt_trans hz hb.1 hb'.1 hlt (next_lt n n'.1 n'.2.1 n'.2.2.1)
      refine ⟨List.pairwise_cons.2 ⟨fun s hs => ih2 _ hb.1 (fun b' n' => next_lt n n'.1 n'.2.1 n'.2.2.1) s hs, ih1⟩, fun z z1 z2 s hs => ?_⟩
      rcases List.mem_cons.1 hs with rfl | hs
      · exact z2 b n
      · exact hz z z1 (z2 b n) s hs
  exact (key h).1
/-- the arithmetic of the three cases; d = b - k, e = j - k, B = o b - o k, J = o j - o k -/
theorem ar_eq {x y d e B J : Int} (hy : 1 ≤ y) (hd : 0 < d) (h1 : x * d = B * y) (h2 : B * e ≤ J * d) : x * e ≤ y * J := by
  have h3 := Int.mul_le_mul_of_nonneg_right h2 (show 0 ≤ y by omega)
  refine Int.le_of_mul_le_mul_right (a := d) ?_ hd
  have : x * e * d = B * e * y := by rw [show x * e * d = (x * d) * e by grind, h1]; grind
  rw [this]; grind
theorem ar_eq' {x y d e B J : Int} (hy : 1 ≤ y) (hd : 0 < d) (h1 : x * d = B * y) (h2 : B * e < J * d) : x * e < y * J := by
  have h3 := Int.mul_lt_mul_of_pos_right h2 (show 0 < y by omega)
  refine Int.lt_of_mul_lt_mul_right (a := d) ?_ (by omega)
  have : x * e * d = B * e * y := by rw [show x * e * d = (x * d) * e by grind, h1]; grind
  rw [this]; grind
theorem ar_lt {x y d e B J : Int} (hy : 1 ≤ y) (hd : 0 < d) (he : 0 < e) (h1 : x * d < B * y) (h2 : B * e ≤ J * d) : x * e < y * J := by
  have h3 := Int.mul_le_mul_of_nonneg_right h2 (show 0 ≤ y by omega)
  have h4 := Int.mul_lt_mul_of_pos_right h1 he
  refine Int.lt_of_mul_lt_mul_right (a := d) ?_ (by omega)
  grind
theorem ar_gt {x y d e B J : Int} (hy : 1 ≤ y) (hd : 0 < d) (he : e < d) (h1 : B * y < x * d) (h2 : B * e ≤ J * d) : y * (B - J) < x * (d - e) := by
  have h3 := Int.mul_le_mul_of_nonneg_right h2 (show 0 ≤ y by omega)
  have h4 := Int.mul_lt_mul_of_pos_right h1 (show 0 < d - e by omega)
  refine Int.lt_of_mul_lt_mul_right (a := d) ?_ (by omega)
  grind
theorem ar_q {x y d B X Y : Int} (hY : 1 ≤ Y) (hd : 0 < d) (h : X * d = B * Y) (e : x * d < B * y) : x * Y < X * y := by
  have h6 := Int.mul_lt_mul_of_pos_right e (show 0 < Y by omega)
  refine Int.lt_of_mul_lt_mul_right (a := d) ?_ (by omega)
  have : X * y * d = B * y * Y := by rw [show X * y * d = (X * d) * y by grind, h]; grind
  rw [this]; grind
theorem count_rep (n : Nat) (s q : Int × Int) : (List.replicate n s).count q = if s = q then n else 0 := by
  rw [List.count_replicate]
  simp
theorem count_none {L : List Sd} {q : Int × Int} (h : ∀ s ∈ L, s.2.2 ≠ q) : (slopes L).count q = 0 := by
  rw [List.count_eq_zero]
  intro hm
  unfold slopes at hm
  obtain ⟨s, hs, hq⟩ := List.mem_flatMap.1 hm
  exact h s hs (List.eq_of_mem_replicate hq).symm
theorem slopes_cons (s : Sd) (L : List Sd) : slopes (s :: L) = List.replicate (s.2.1 - s.1) s.2.2 ++ slopes L := by simp [slopes]
theorem sides_count {S : Nat → Prop} {o : Nat → Int} {N k : Nat} {L : List Sd} (h : Sides S o N k L) (hk : S k) {q : Int × Int} (hq : Red q) :
    ∃ i j, Fst S o N k q i ∧ Lst S o N k q j ∧ j = i + (slopes L).count q := by
  induction h with
  | @done k e =>
    refine ⟨k, k, ⟨by omega, by omega, hk, fun j h1 h2 _ => ?_, fun j h1 h2 => by omega⟩, ⟨by omega, by omega, hk, fun j h1 h2 _ => ?_, fun j h1 h2 => by omega⟩, by simp [slopes]⟩
    · obtain rfl : j = k := by omega
      exact Int.le_refl _
    · obtain rfl : j = k := by omega
      exact Int.le_refl _
  | @step k b L n t ih =>
    have hrise := (Sides.step n t).rise
    obtain ⟨hr1, _⟩ := List.pairwise_cons.1 hrise
    obtain ⟨g1, g2, g3, g4, g5⟩ := n
    have hd : 0 < (b : Int) - k := by omega
    obtain ⟨⟨s1, s2⟩, s3, _⟩ := frc_spec (o b - o k) ((b : Int) - k) hd
    have hs2 := hq.1
    rw [slopes_cons, List.count_append, count_rep]
    show ∃ i j, _ ∧ _ ∧ j = i + ((if frc (o b - o k) ((b : Int) - k) = q then b - k else 0) + _)
    rcases Int.lt_trichotomy (q.1 * ((b : Int) - k)) ((o b - o k) * q.2) with e | e | e
    · -- q is less
      have hlt : ∀ j, k < j → j < N → S j → vl o q k < vl o q j := fun j h1 h2 h3 => by
        have := ar_lt (x := q.1) (y := q.2) (d := (b : Int) - k) (e := (j : Int) - k) (B := o b - o k) (J := o j - o k) hs2 hd (by omega) e (g4 j h1 h2 h3)
        unfold vl; grind
      have hqs : flt q (frc (o b - o k) ((b : Int) - k)) := by
        unfold flt
        exact ar_q s1 hd s3 e
      refine ⟨k, k, ⟨by omega, by omega, hk, fun j h1 h2 h3 => ?_, fun j h1 h2 => by omega⟩, ⟨by omega, by omega, hk, fun j h1 h2 h3 => ?_, hlt⟩, ?_⟩
      · rcases Nat.lt_or_ge k j with h | h
        · exact Int.le_of_lt (hlt j h h2 h3)
        · obtain rfl : j = k := by omega
          exact Int.le_refl _
      · rcases Nat.lt_or_ge k j with h | h
        · exact Int.le_of_lt (hlt j h h2 h3)
        · obtain rfl : j = k := by omega
          exact Int.le_refl _
      · rw [if_neg (by intro h; rw [h] at hqs; unfold flt at hqs; omega), count_none (fun s hs h => by
          have h7 := hr1 s hs
          simp only at h7
          rw [h] at h7; unfold flt at h7 hqs; omega)]
        omega
    · have es : frc (o b - o k) ((b : Int) - k) = q := by
        refine Red.eq ⟨s1, s2⟩ hq ?_
        refine Int.eq_of_mul_eq_mul_right (show (b : Int) - k ≠ 0 by omega) ?_
        rw [show (frc (o b - o k) ((b : Int) - k)).1 * q.2 * ((b : Int) - k) = (frc (o b - o k) ((b : Int) - k)).1 * ((b : Int) - k) * q.2 by grind, s3]
        rw [show q.1 * (frc (o b - o k) ((b : Int) - k)).2 * ((b : Int) - k) = q.1 * ((b : Int) - k) * (frc (o b - o k) ((b : Int) - k)).2 by grind, e]; grind
      have hle : ∀ j, k < j → j < N → S j → vl o q k ≤ vl o q j := fun j h1 h2 h3 => by
        have := ar_eq (x := q.1) (y := q.2) (d := (b : Int) - k) (e := (j : Int) - k) (B := o b - o k) (J := o j - o k) hs2 hd e (g4 j h1 h2 h3)
        unfold vl; grind
      have hbk : vl o q b = vl o q k := by unfold vl; grind
      have hlt : ∀ j, b < j → j < N → S j → vl o q b < vl o q j := fun j h1 h2 h3 => by
        have := ar_eq' (x := q.1) (y := q.2) (d := (b : Int) - k) (e := (j : Int) - k) (B := o b - o k) (J := o j - o k) hs2 hd e (g5 j h1 h2 h3)
        rw [hbk]; unfold vl; grind
      have hle' : ∀ j, k ≤ j → j < N → S j → vl o q k ≤ vl o q j := fun j h1 h2 h3 => by
        rcases Nat.lt_or_ge k j with h | h
        · exact hle j h h2 h3
        · obtain rfl : j = k := by omega
          exact Int.le_refl _
      refine ⟨k, b, ⟨by omega, by omega, hk, hle', fun j h1 h2 => by omega⟩, ⟨by omega, by omega, g3, fun j h1 h2 h3 => by rw [hbk]; exact hle' j h1 h2 h3, hlt⟩, ?_⟩
      rw [es, if_pos rfl, count_none (fun s hs h => by
          have h7 := hr1 s hs
          simp only at h7
          rw [h, es] at h7; unfold flt at h7; omega)]
      show b = k + (b - k + 0)
      omega
    · obtain ⟨i, j, hi, hj, hij⟩ := ih g3
      have hgt : ∀ j, k ≤ j → j < b → S j → vl o q b < vl o q j := fun j h1 h2 h3 => by
        have h4 : (o b - o k) * ((j : Int) - k) ≤ (o j - o k) * ((b : Int) - k) := by
          rcases Nat.lt_or_ge k j with h | h
          · exact g4 j h (by omega) h3
          · obtain rfl : j = k := by omega
            simp
        have := ar_gt (x := q.1) (y := q.2) (d := (b : Int) - k) (e := (j : Int) - k) (B := o b - o k) (J := o j - o k) hs2 hd (by omega) e h4
        unfold vl; grind
      obtain ⟨i1, i2, i3, i4, i5⟩ := hi
      obtain ⟨j1, j2, j3, j4, j5⟩ := hj
      refine ⟨i, j, ⟨by omega, i2, i3, fun z h1 h2 h3 => ?_, fun z h1 h2 h3 => ?_⟩, ⟨by omega, j2, j3, fun z h1 h2 h3 => ?_, j5⟩, ?_⟩
      · rcases Nat.lt_or_ge z b with h | h
        · have := hgt z h1 h h3; have := i4 b (by omega) g2 g3; omega
        · exact i4 z h h2 h3
      · rcases Nat.lt_or_ge z b with h | h
        · have := hgt z h1 h h3; have := i4 b (by omega) g2 g3; omega
        · exact i5 z h h2 h3
      · rcases Nat.lt_or_ge z b with h | h
        · have := hgt z h1 h h3; have := j4 b (by omega) g2 g3; omega
        · exact j4 z h h2 h3
      · rw [if_neg, hij]
        · omega
        · intro h
          rw [h] at s3
          rw [s3] at e
          omega
/-- how often p divides -/
def ordF (p : Nat) : Nat → Int → Nat
  | 0, _ => 0
  | f + 1, n => if n % (p : Int) = 0 then ordF p f (n / p) + 1 else 0
def ord (p : Nat) (n : Int) : Nat := ordF p n.natAbs n
theorem ordF_spec {p : Nat} (hp : 2 ≤ p) : ∀ (f : Nat) (n : Int), n ≠ 0 → n.natAbs ≤ f → ∃ m, n = (p : Int) ^ (ordF p f n) * m ∧ ¬ (p : Int) ∣ m := by
  intro f
  induction f with
  | zero => intro n h0 h; omega
  | succ f ih =>
    intro n h0 h
    unfold ordF
    by_cases e : n % (p : Int) = 0
    · rw [if_pos e]
      obtain ⟨k, rfl⟩ := Int.dvd_of_emod_eq_zero e
      rw [Int.mul_ediv_cancel_left _ (by omega)]
      have hk0 : k ≠ 0 := by rintro rfl; simp at h0
      have hk : k.natAbs ≤ f := by
        rw [Int.natAbs_mul] at h
        have h1 : 2 * k.natAbs ≤ (p : Int).natAbs * k.natAbs := Nat.mul_le_mul_right _ (by omega)
        have h2 : k.natAbs ≠ 0 := by omega
        omega
      obtain ⟨m, h1, h2⟩ := ih k hk0 hk
      refine ⟨m, ?_, h2⟩
      conv => lhs; rw [h1]
      rw [Int.pow_succ]; grind
    · rw [if_neg e]
      exact ⟨n, by simp, fun h => e (Int.emod_eq_zero_of_dvd h)⟩
theorem ord_spec {p : Nat} (hp : 2 ≤ p) {n : Int} (h : n ≠ 0) : ∃ m, n = (p : Int) ^ (ord p n) * m ∧ ¬ (p : Int) ∣ m := ordF_spec hp _ n h (Nat.le_refl _)
theorem pow_pos' {p : Nat} (hp : 2 ≤ p) (k : Nat) : (1 : Int) ≤ (p : Int) ^ k := by
  induction k with
  | zero => simp
  | succ k ih => rw [Int.pow_succ]; have := Int.mul_le_mul ih (show (1 : Int) ≤ p by omega) (by omega) (by omega); omega
theorem pow_dvd {p : Nat} {a b : Nat} (h : a ≤ b) : (p : Int) ^ a ∣ (p : Int) ^ b := by
  rw [show b = a + (b - a) by omega, Int.pow_add]
  exact ⟨_, rfl⟩
theorem ord_eq {p : Nat} (hp : 2 ≤ p) {k : Nat} {m : Int} (h : ¬ (p : Int) ∣ m) : ord p ((p : Int) ^ k * m) = k := by
  have hm : m ≠ 0 := by rintro rfl; exact h ⟨0, by simp⟩
  have h0 := pow_pos' hp k
  obtain ⟨m', h1, h2⟩ := ord_spec hp (n := (p : Int) ^ k * m) (by
    intro e; rcases Int.mul_eq_zero.1 e with e | e
    · omega
    · exact hm e)
  generalize ord p ((p : Int) ^ k * m) = r at *
  rcases Nat.lt_trichotomy r k with e | e | e
  · exfalso
    apply h2
    obtain ⟨t, ht⟩ := pow_dvd (p := p) (show r + 1 ≤ k by omega)
    have hr := pow_pos' hp r
    rw [ht, Int.pow_succ] at h1
    refine ⟨t * m, ?_⟩
    refine Int.eq_of_mul_eq_mul_left (show (p : Int) ^ r ≠ 0 by omega) ?_
    rw [← h1]; grind
  · exact e
  · exfalso
    apply h
    obtain ⟨t, ht⟩ := pow_dvd (p := p) (show k + 1 ≤ r by omega)
    rw [ht, Int.pow_succ] at h1
    refine ⟨t * m', ?_⟩
    refine Int.eq_of_mul_eq_mul_left (show (p : Int) ^ k ≠ 0 by omega) ?_
    rw [h1]; grind
theorem ord_dvd {p : Nat} (hp : 2 ≤ p) {n : Int} (h : n ≠ 0) {e : Nat} : (p : Int) ^ e ∣ n ↔ e ≤ ord p n := by
  obtain ⟨m, h1, h2⟩ := ord_spec hp h
  constructor
  · intro hd
    rcases Nat.lt_or_ge (ord p n) e with g | g
    · exfalso
      apply h2
      have : (p : Int) ^ (ord p n + 1) ∣ n := Int.dvd_trans (pow_dvd (by omega)) hd
      obtain ⟨t, ht⟩ := this
      refine ⟨t, ?_⟩
      have := pow_pos' hp (ord p n)
      refine Int.eq_of_mul_eq_mul_left (show (p : Int) ^ (ord p n) ≠ 0 by omega) ?_
      have h3 : (p : Int) ^ (ord p n) * m = (p : Int) ^ (ord p n) * (p * t) := by
        rw [← h1]
        conv => lhs; rw [ht]
        rw [Int.pow_succ]; grind
      exact h3
    · exact g
  · intro g
    rw [h1]
    exact Int.dvd_trans (pow_dvd g) ⟨m, rfl⟩
/-- a product's coefficient, summed over the first m places of f -/
def cs (f g : Nat → Int) (n : Nat) : Nat → Int
  | 0 => 0
  | m + 1 => cs f g n m + if m ≤ n then f m * g (n - m) else 0
theorem cs_dvd {f g : Nat → Int} {n : Nat} {d : Int} (h : ∀ u v, u + v = n → d ∣ f u * g v) : ∀ m, d ∣ cs f g n m := by
  intro m
  induction m with
  | zero => exact ⟨0, by simp [cs]⟩
  | succ m ih =>
    unfold cs
    refine Int.dvd_add ih ?_
    split
    · exact h m (n - m) (by omega)
    · exact ⟨0, by simp⟩
theorem cs_one {f g : Nat → Int} {n i : Nat} {d : Int} (hi : i ≤ n) (h : ∀ u v, u + v = n → u ≠ i → d ∣ f u * g v) :
    ∀ m, d ∣ cs f g n m - if i < m then f i * g (n - i) else 0 := by
  intro m
  induction m with
  | zero => exact ⟨0, by simp [cs]⟩
  | succ m ih =>
    unfold cs
    rcases Nat.lt_trichotomy i m with e | e | e
    · rw [if_pos (show i < m + 1 by omega)]
      rw [if_pos e] at ih
      have : d ∣ (if m ≤ n then f m * g (n - m) else 0) := by
        split
        · exact h m (n - m) (by omega) (by omega)
        · exact ⟨0, by simp⟩
      have h2 := Int.dvd_add ih this
      rwa [show cs f g n m - f i * g (n - i) + (if m ≤ n then f m * g (n - m) else 0) = cs f g n m + (if m ≤ n then f m * g (n - m) else 0) - f i * g (n - i) by omega] at h2
    · subst e
      rw [if_pos (show i < i + 1 by omega), if_pos hi]
      rw [if_neg (by omega)] at ih
      rwa [show cs f g n i + f i * g (n - i) - f i * g (n - i) = cs f g n i - 0 by omega]
    · rw [if_neg (show ¬ i < m + 1 by omega)]
      rw [if_neg (by omega)] at ih
      have : d ∣ (if m ≤ n then f m * g (n - m) else 0) := by
        split
        · exact h m (n - m) (by omega) (by omega)
        · exact ⟨0, by simp⟩
      have h2 := Int.dvd_add ih this
      rwa [show cs f g n m - 0 + (if m ≤ n then f m * g (n - m) else 0) = cs f g n m + (if m ≤ n then f m * g (n - m) else 0) - 0 by omega] at h2
def Prm (p : Nat) : Prop := 2 ≤ p ∧ ∀ a b : Int, (p : Int) ∣ a * b → (p : Int) ∣ a ∨ (p : Int) ∣ b
theorem ord_mul {p : Nat} (hp : Prm p) {a b : Int} (ha : a ≠ 0) (hb : b ≠ 0) : ∃ m, a * b = (p : Int) ^ (ord p a + ord p b) * m ∧ ¬ (p : Int) ∣ m := by
  obtain ⟨x, h1, h2⟩ := ord_spec hp.1 ha
  obtain ⟨y, h3, h4⟩ := ord_spec hp.1 hb
  refine ⟨x * y, ?_, fun h => ?_⟩
  · conv => lhs; rw [h1, h3]
    rw [Int.pow_add]; grind
  · rcases hp.2 x y h with h | h
    · exact h2 h
    · exact h4 h
/-- the orders of coefficients, and the places of those that are not 0 -/
def od (p : Nat) (f : Nat → Int) (i : Nat) : Int := ord p (f i)
def nz (f : Nat → Int) (i : Nat) : Prop := f i ≠ 0
theorem mul_lt {y a b : Int} (hy : 1 ≤ y) (h : y * a < y * b) : a < b := Int.lt_of_mul_lt_mul_left h (by omega)
/-- all terms lie on or above a line: so does the sum -/
theorem above {p : Nat} (hp : Prm p) {f g : Nat → Int} {n m : Nat} {y M : Int} (hy : 1 ≤ y)
    (h : ∀ u v, u + v = n → f u ≠ 0 → g v ≠ 0 → M ≤ y * (od p f u + od p g v)) (h0 : cs f g n m ≠ 0) : M ≤ y * (ord p (cs f g n m) : Int) := by
  rcases Int.lt_or_le (y * (ord p (cs f g n m) : Int)) M with hl | hl
  · exfalso
    have : (p : Int) ^ (ord p (cs f g n m) + 1) ∣ cs f g n m := cs_dvd (fun u v huv => by
      by_cases hu : f u = 0
      · rw [hu]; exact ⟨0, by simp⟩
      by_cases hv : g v = 0
      · rw [hv]; exact ⟨0, by simp⟩
      obtain ⟨t, ht, _⟩ := ord_mul hp hu hv
      rw [ht]
      have h1 := h u v huv hu hv
      have h2 : (ord p (cs f g n m) : Int) < od p f u + od p g v := mul_lt hy (by omega)
      unfold od at h2
      exact Int.dvd_trans (pow_dvd (by omega)) ⟨t, rfl⟩) m
    have := (ord_dvd hp.1 h0).1 this
    omega
  · exact hl
/-- one term lies below all others: it gives the order -/
theorem alone {p : Nat} (hp : Prm p) {f g : Nat → Int} {i j m : Nat} {y : Int} (hy : 1 ≤ y) (hi : f i ≠ 0) (hj : g j ≠ 0) (hm : i < m)
    (h : ∀ u v, u + v = i + j → u ≠ i → f u ≠ 0 → g v ≠ 0 → y * (od p f i + od p g j) < y * (od p f u + od p g v)) :
    cs f g (i + j) m ≠ 0 ∧ (ord p (cs f g (i + j) m) : Int) = od p f i + od p g j := by
  have key := cs_one (f := f) (g := g) (n := i + j) (i := i) (d := (p : Int) ^ (ord p (f i) + ord p (g j) + 1)) (by omega) (fun u v huv hu => by
      by_cases hu0 : f u = 0
      · rw [hu0]; exact ⟨0, by simp⟩
      by_cases hv0 : g v = 0
      · rw [hv0]; exact ⟨0, by simp⟩
      obtain ⟨t, ht, _⟩ := ord_mul hp hu0 hv0
      rw [ht]
      have h2 := mul_lt hy (h u v huv hu hu0 hv0)
      unfold od at h2
      exact Int.dvd_trans (pow_dvd (by omega)) ⟨t, rfl⟩) m
  rw [if_pos hm, show i + j - i = j by omega] at key
  obtain ⟨t, ht⟩ := key
  obtain ⟨x, h1, h2⟩ := ord_mul hp hi hj
  have e : cs f g (i + j) m = (p : Int) ^ (ord p (f i) + ord p (g j)) * (x + p * t) := by
    rw [Int.pow_succ] at ht
    have : cs f g (i + j) m = f i * g j + (p : Int) ^ (ord p (f i) + ord p (g j)) * p * t := by omega
    rw [this, h1]; grind
  have hn : ¬ (p : Int) ∣ x + p * t := fun hd => h2 (by
    have := Int.dvd_sub hd (⟨t, rfl⟩ : (p : Int) ∣ p * t)
    rwa [show x + p * t - p * t = x by omega] at this)
  have h3 := ord_eq hp.1 (k := ord p (f i) + ord p (g j)) hn
  rw [← e] at h3
  refine ⟨fun h0 => ?_, by rw [h3]; unfold od; omega⟩
  rw [h0] at e
  rcases Int.mul_eq_zero.1 e.symm with e | e
  · have := pow_pos' hp.1 (ord p (f i) + ord p (g j)); omega
  · exact hn ⟨0, by omega⟩
theorem vl_sum (o o' : Nat → Int) (q : Int × Int) (u v : Nat) : vl o q u + vl o' q v = q.2 * (o u + o' v) - q.1 * ((u + v : Nat) : Int) := by
  unfold vl; rw [Int.natCast_add]; grind
theorem dumas_fst {p : Nat} (hp : Prm p) {f g c : Nat → Int} {N M K m : Nat} (hf : ∀ i, N ≤ i → f i = 0) (hg : ∀ i, M ≤ i → g i = 0) (hm : N ≤ m)
    (hc : ∀ n, c n = cs f g n m) (hK : K = N + M - 1) {q : Int × Int} (hq : 1 ≤ q.2) {i j : Nat} (hi : Fst (nz f) (od p f) N 0 q i) (hj : Fst (nz g) (od p g) M 0 q j) :
    Fst (nz c) (od p c) K 0 q (i + j) := by
  obtain ⟨_, i2, i3, i4, i5⟩ := hi
  obtain ⟨_, j2, j3, j4, j5⟩ := hj
  have bf : ∀ u, f u ≠ 0 → u < N := fun u h => by
    rcases Nat.lt_or_ge u N with g | g
    · exact g
    · exact absurd (hf u g) h
  have bg : ∀ u, g u ≠ 0 → u < M := fun u h => by
    rcases Nat.lt_or_ge u M with g | g
    · exact g
    · exact absurd (hg u g) h
  have hall : ∀ u v, f u ≠ 0 → g v ≠ 0 → vl (od p f) q i + vl (od p g) q j ≤ vl (od p f) q u + vl (od p g) q v := fun u v hu hv => by
    have := i4 u (by omega) (bf u hu) hu; have := j4 v (by omega) (bg v hv) hv; omega
  have hless : ∀ u v, u < i ∨ v < j → f u ≠ 0 → g v ≠ 0 → vl (od p f) q i + vl (od p g) q j < vl (od p f) q u + vl (od p g) q v := fun u v h hu hv => by
    have := i4 u (by omega) (bf u hu) hu; have := j4 v (by omega) (bg v hv) hv
    rcases h with h | h
    · have := i5 u (by omega) h hu; omega
    · have := j5 v (by omega) h hv; omega
  have hal := alone hp (f := f) (g := g) (i := i) (j := j) (m := m) hq i3 j3 (by omega) (fun u v huv hu hu0 hv0 => by
    have := hless u v (by omega) hu0 hv0
    rw [vl_sum, vl_sum, huv] at this
    omega)
  have hvl : vl (od p c) q (i + j) = vl (od p f) q i + vl (od p g) q j := by
    rw [vl_sum]
    unfold vl
    rw [show od p c (i + j) = (ord p (cs f g (i + j) m) : Int) by unfold od; rw [hc], hal.2]
  refine ⟨by omega, by omega, by show c (i + j) ≠ 0; rw [hc]; exact hal.1, fun n _ _ hn => ?_, fun n _ hlt hn => ?_⟩
  · rw [hvl]
    have := above hp (f := f) (g := g) (n := n) (m := m) (y := q.2) (M := vl (od p f) q i + vl (od p g) q j + q.1 * n) hq (fun u v huv hu hv => by
      have := hall u v hu hv
      rw [vl_sum (od p f) (od p g) q u v, huv] at this
      omega) (by rw [← hc]; exact hn)
    unfold vl at *
    rw [show od p c n = (ord p (cs f g n m) : Int) by unfold od; rw [hc]]
    omega
  · rw [hvl]
    have := above hp (f := f) (g := g) (n := n) (m := m) (y := q.2) (M := vl (od p f) q i + vl (od p g) q j + q.1 * n + 1) hq (fun u v huv hu hv => by
      have := hless u v (by omega) hu hv
      rw [vl_sum (od p f) (od p g) q u v, huv] at this
      omega) (by rw [← hc]; exact hn)
    unfold vl at *
    rw [show od p c n = (ord p (cs f g n m) : Int) by unfold od; rw [hc]]
    omega
theorem dumas_lst {p : Nat} (hp : Prm p) {f g c : Nat → Int} {N M K m : Nat} (hf : ∀ i, N ≤ i → f i = 0) (hg : ∀ i, M ≤ i → g i = 0) (hm : N ≤ m)
    (hc : ∀ n, c n = cs f g n m) (hK : K = N + M - 1) {q : Int × Int} (hq : 1 ≤ q.2) {i j : Nat} (hi : Lst (nz f) (od p f) N 0 q i) (hj : Lst (nz g) (od p g) M 0 q j) :
    Lst (nz c) (od p c) K 0 q (i + j) := by
  obtain ⟨_, i2, i3, i4, i5⟩ := hi
  obtain ⟨_, j2, j3, j4, j5⟩ := hj
  have bf : ∀ u, f u ≠ 0 → u < N := fun u h => by
    rcases Nat.lt_or_ge u N with g | g
    · exact g
    · exact absurd (hf u g) h
  have bg : ∀ u, g u ≠ 0 → u < M := fun u h => by
    rcases Nat.lt_or_ge u M with g | g
    · exact g
    · exact absurd (hg u g) h
  have hall : ∀ u v, f u ≠ 0 → g v ≠ 0 → vl (od p f) q i + vl (od p g) q j ≤ vl (od p f) q u + vl (od p g) q v := fun u v hu hv => by
    have := i4 u (by omega) (bf u hu) hu; have := j4 v (by omega) (bg v hv) hv; omega
  have hless : ∀ u v, i < u ∨ j < v → f u ≠ 0 → g v ≠ 0 → vl (od p f) q i + vl (od p g) q j < vl (od p f) q u + vl (od p g) q v := fun u v h hu hv => by
    have := i4 u (by omega) (bf u hu) hu; have := j4 v (by omega) (bg v hv) hv
    rcases h with h | h
    · have := i5 u h (bf u hu) hu; omega
    · have := j5 v h (bg v hv) hv; omega
  have hal := alone hp (f := f) (g := g) (i := i) (j := j) (m := m) hq i3 j3 (by omega) (fun u v huv hu hu0 hv0 => by
    have := hless u v (by omega) hu0 hv0
    rw [vl_sum, vl_sum, huv] at this
    omega)
  have hvl : vl (od p c) q (i + j) = vl (od p f) q i + vl (od p g) q j := by
    rw [vl_sum]
    unfold vl
    rw [show od p c (i + j) = (ord p (cs f g (i + j) m) : Int) by unfold od; rw [hc], hal.2]
  refine ⟨by omega, by omega, by show c (i + j) ≠ 0; rw [hc]; exact hal.1, fun n _ _ hn => ?_, fun n hlt _ hn => ?_⟩
  · rw [hvl]
    have := above hp (f := f) (g := g) (n := n) (m := m) (y := q.2) (M := vl (od p f) q i + vl (od p g) q j + q.1 * n) hq (fun u v huv hu hv => by
      have := hall u v hu hv
      rw [vl_sum (od p f) (od p g) q u v, huv] at this
      omega) (by rw [← hc]; exact hn)
    unfold vl at *
    rw [show od p c n = (ord p (cs f g n m) : Int) by unfold od; rw [hc]]
    omega
  · rw [hvl]
    have := above hp (f := f) (g := g) (n := n) (m := m) (y := q.2) (M := vl (od p f) q i + vl (od p g) q j + q.1 * n + 1) hq (fun u v huv hu hv => by
      have := hless u v (by omega) hu hv
      rw [vl_sum (od p f) (od p g) q u v, huv] at this
      omega) (by rw [← hc]; exact hn)
    unfold vl at *
    rw [show od p c n = (ord p (cs f g n m) : Int) by unfold od; rw [hc]]
    omega
theorem Fst.zero {S : Nat → Prop} {o : Nat → Int} {N k i : Nat} {q : Int × Int} (h : Fst S o N k q i) (hk : ∀ j, j < k → ¬ S j) : Fst S o N 0 q i := by
  obtain ⟨h1, h2, h3, h4, h5⟩ := h
  have hb : ∀ j, S j → k ≤ j := fun j hj => by
    rcases Nat.lt_or_ge j k with g | g
    · exact absurd hj (hk j g)
    · exact g
  exact ⟨by omega, h2, h3, fun j _ hj hs => h4 j (hb j hs) hj hs, fun j _ hj hs => h5 j (hb j hs) hj hs⟩
theorem Lst.zero {S : Nat → Prop} {o : Nat → Int} {N k i : Nat} {q : Int × Int} (h : Lst S o N k q i) (hk : ∀ j, j < k → ¬ S j) : Lst S o N 0 q i := by
  obtain ⟨h1, h2, h3, h4, h5⟩ := h
  have hb : ∀ j, S j → k ≤ j := fun j hj => by
    rcases Nat.lt_or_ge j k with g | g
    · exact absurd hj (hk j g)
    · exact g
  exact ⟨by omega, h2, h3, fun j _ hj hs => h4 j (hb j hs) hj hs, h5⟩
/-- the next corner, found place by place -/
theorem Next.first {S : Nat → Prop} {o : Nat → Int} {k J : Nat} (h : k < J) (hS : S J) (hn : ∀ j, k < j → j < J → ¬ S j) : Next S o (J + 1) k J := by
  refine ⟨h, by omega, hS, fun j h1 h2 h3 => ?_, fun j h1 h2 => by omega⟩
  rcases Nat.lt_or_ge j J with g | g
  · exact absurd h3 (hn j h1 g)
  · obtain rfl : j = J := by omega
    exact Int.le_refl _
theorem cr_le {a b c x y z : Int} (hy : 0 < y) (hx : 0 < x) (hz : 0 < z) (h1 : a * y ≤ b * x) (h2 : b * z ≤ c * y) : a * z ≤ c * x := by
  have h3 := Int.mul_le_mul_of_nonneg_right h1 (show 0 ≤ z by omega)
  have h4 := Int.mul_le_mul_of_nonneg_right h2 (show 0 ≤ x by omega)
  refine Int.le_of_mul_le_mul_right (a := y) ?_ hy
  grind
theorem Next.swap {S : Nat → Prop} {o : Nat → Int} {k b J : Nat} (h : Next S o J k b) (hS : S J) (hle : (o J - o k) * ((b : Int) - k) ≤ (o b - o k) * ((J : Int) - k)) : Next S o (J + 1) k J := by
  obtain ⟨h1, h2, h3, h4, h5⟩ := h
  refine ⟨by omega, by omega, hS, fun j g1 g2 g3 => ?_, fun j g1 g2 => by omega⟩
  rcases Nat.lt_or_ge j J with g | g
  · exact cr_le (y := (b : Int) - k) (by omega) (by omega) (by omega) hle (h4 j g1 g g3)
  · obtain rfl : j = J := by omega
    exact Int.le_refl _
theorem Next.keep {S : Nat → Prop} {o : Nat → Int} {k b J : Nat} (h : Next S o J k b) (hS : S J → (o b - o k) * ((J : Int) - k) < (o J - o k) * ((b : Int) - k)) : Next S o (J + 1) k b := by
  obtain ⟨h1, h2, h3, h4, h5⟩ := h
  refine ⟨h1, by omega, h3, fun j g1 g2 g3 => ?_, fun j g1 g2 g3 => ?_⟩
  · rcases Nat.lt_or_ge j J with g | g
    · exact h4 j g1 g g3
    · obtain rfl : j = J := by omega
      exact Int.le_of_lt (hS g3)
  · rcases Nat.lt_or_ge j J with g | g
    · exact h5 j g1 g g3
    · obtain rfl : j = J := by omega
      exact hS g3
theorem Next.ex {S : Nat → Prop} {o : Nat → Int} {N k : Nat} (hk : k + 1 < N) (hS : S (N - 1)) : ∃ b, Next S o N k b := by
  have key : ∀ J, (∃ b, Next S o J k b) ∨ ∀ j, k < j → j < J → ¬ S j := by
    intro J
    induction J with
    | zero => right; intro j h1 h2; omega
    | succ J ih =>
      rcases ih with ⟨b, hb⟩ | hn
      · left
        by_cases hs : S J
        · by_cases hle : (o J - o k) * ((b : Int) - k) ≤ (o b - o k) * ((J : Int) - k)
          · exact ⟨J, hb.swap hs hle⟩
          · exact ⟨b, hb.keep fun _ => by omega⟩
        · exact ⟨b, hb.keep fun h => absurd h hs⟩
      · by_cases hs : S J ∧ k < J
        · left; exact ⟨J, Next.first hs.2 hs.1 hn⟩
        · right
          intro j h1 h2 h3
          rcases Nat.lt_or_ge j J with g | g
          · exact hn j h1 g h3
          · obtain rfl : j = J := by omega
            exact hs ⟨h3, h1⟩
  rcases key N with h | h
  · exact h
  · exact absurd hS (h (N - 1) (by omega) (by omega))
theorem Sides.ex {S : Nat → Prop} {o : Nat → Int} {N : Nat} (hS : S (N - 1)) : ∀ (n k : Nat), k < N → N - k ≤ n → ∃ L, Sides S o N k L := by
  intro n
  induction n with
  | zero => intro k h1 h2; omega
  | succ n ih =>
    intro k h1 h2
    by_cases e : k + 1 = N
    · exact ⟨[], .done e⟩
    · obtain ⟨b, hb⟩ := Next.ex (o := o) (k := k) (N := N) (by omega) hS
      obtain ⟨L, hL⟩ := ih b hb.2.1 (by have := hb.1; omega)
      exact ⟨_, .step hb hL⟩
/-- a list's coefficients -/
def cf (f : List Int) (i : Nat) : Int := f.getD i 0
/-- L are the sides of the polygon of f -/
def Pg (p : Nat) (f : List Int) (L : List Sd) : Prop := ∃ k, nz (cf f) k ∧ (∀ j, j < k → ¬ nz (cf f) j) ∧ Sides (nz (cf f)) (od p (cf f)) f.length k L
theorem Pg.eq {p : Nat} {f : List Int} {L L' : List Sd} (h : Pg p f L) (h' : Pg p f L') : L = L' := by
  obtain ⟨k, h1, h2, h3⟩ := h
  obtain ⟨k', g1, g2, g3⟩ := h'
  have : k = k' := by
    rcases Nat.lt_trichotomy k k' with e | e | e
    · exact absurd h1 (g2 k e)
    · exact e
    · exact absurd g1 (h2 k' e)
  subst this
  exact h3.eq g3
theorem Pg.ex (p : Nat) {f : List Int} (h0 : 1 ≤ f.length) (h : nz (cf f) (f.length - 1)) : ∃ L, Pg p f L := by
  have key : ∀ J, (∃ k, nz (cf f) k ∧ k < J ∧ ∀ j, j < k → ¬ nz (cf f) j) ∨ ∀ j, j < J → ¬ nz (cf f) j := by
    intro J
    induction J with
    | zero => right; intro j h; omega
    | succ J ih =>
      rcases ih with ⟨k, h1, h2, h3⟩ | hn
      · left; exact ⟨k, h1, by omega, h3⟩
      · by_cases hs : nz (cf f) J
        · left; exact ⟨J, hs, by omega, hn⟩
        · right
          intro j h1
          rcases Nat.lt_or_ge j J with g | g
          · exact hn j g
          · obtain rfl : j = J := by omega
            exact hs
  rcases key f.length with ⟨k, h1, h2, h3⟩ | hn
  · obtain ⟨L, hL⟩ := Sides.ex (S := nz (cf f)) (o := od p (cf f)) h (f.length) k h2 (by omega)
    exact ⟨L, k, h1, h3, hL⟩
  · exact absurd h (hn _ (by omega))
theorem Sides.red {S : Nat → Prop} {o : Nat → Int} {N k : Nat} {L : List Sd} (h : Sides S o N k L) : ∀ s ∈ L, Red s.2.2 ∧ s.1 < s.2.1 ∧ s.2.1 < N ∧ s.2.2.2 ≤ (s.2.1 : Int) - s.1 ∧ k ≤ s.1 ∧ s.2.2 = frc (o s.2.1 - o s.1) ((s.2.1 : Int) - s.1) ∧ S s.2.1 := by
  induction h with
  | done _ => simp
  | @step k b L n t ih =>
    intro s hs
    rcases List.mem_cons.1 hs with rfl | hs
    · have := frc_spec (o b - o k) ((b : Int) - k) (by have := n.1; omega)
      exact ⟨this.1, n.1, n.2.1, this.2.2.1, Nat.le_refl _, rfl, n.2.2.1⟩
    · have := ih s hs
      have := n.1
      exact ⟨(ih s hs).1, (ih s hs).2.1, (ih s hs).2.2.1, (ih s hs).2.2.2.1, by have := (ih s hs).2.2.2.2.1; omega, (ih s hs).2.2.2.2.2⟩
theorem Pg.places {p : Nat} {f : List Int} {L : List Sd} (h : Pg p f L) {q : Int × Int} (hq : Red q) :
    ∃ i j, Fst (nz (cf f)) (od p (cf f)) f.length 0 q i ∧ Lst (nz (cf f)) (od p (cf f)) f.length 0 q j ∧ j = i + (slopes L).count q := by
  obtain ⟨k, h1, h2, h3⟩ := h
  obtain ⟨i, j, hi, hj, e⟩ := sides_count h3 h1 hq
  exact ⟨i, j, hi.zero h2, hj.zero h2, e⟩
/-- t is the product of f and g -/
def IsProd (f g t : List Int) : Prop := 1 ≤ f.length ∧ 1 ≤ g.length ∧ t.length = f.length + g.length - 1 ∧ ∀ n, cf t n = cs (cf f) (cf g) n f.length
theorem cf_out {f : List Int} {i : Nat} (h : f.length ≤ i) : cf f i = 0 := by simp [cf, List.getD, List.getElem?_eq_none h]
theorem slopes_count {p : Nat} (hp : Prm p) {f g t : List Int} {A B C : List Sd} (hA : Pg p f A) (hB : Pg p g B) (hC : Pg p t C) (ht : IsProd f g t) {q : Int × Int} (hq : Red q) :
    (slopes C).count q = (slopes A).count q + (slopes B).count q := by
  obtain ⟨i1, j1, hi1, hj1, e1⟩ := hA.places hq
  obtain ⟨i2, j2, hi2, hj2, e2⟩ := hB.places hq
  obtain ⟨i3, j3, hi3, hj3, e3⟩ := hC.places hq
  obtain ⟨l1, l2, hl, hc⟩ := ht
  have a := dumas_fst hp (fun i h => cf_out h) (fun i h => cf_out h) (Nat.le_refl _) hc hl hq.1 hi1 hi2
  have b := dumas_lst hp (fun i h => cf_out h) (fun i h => cf_out h) (Nat.le_refl _) hc hl hq.1 hj1 hj2
  have := hi3.eq a
  have := hj3.eq b
  omega
theorem slopes_red {p : Nat} {f : List Int} {L : List Sd} (h : Pg p f L) : ∀ q ∈ slopes L, Red q := by
  intro q hq
  obtain ⟨k, _, _, h3⟩ := h
  unfold slopes at hq
  obtain ⟨s, hs, hq⟩ := List.mem_flatMap.1 hq
  rw [List.eq_of_mem_replicate hq]
  exact (h3.red s hs).1
theorem slopes_perm {p : Nat} (hp : Prm p) {f g t : List Int} {A B C : List Sd} (hA : Pg p f A) (hB : Pg p g B) (hC : Pg p t C) (ht : IsProd f g t) :
    (slopes C).Perm (slopes A ++ slopes B) := by
  rw [List.perm_iff_count]
  intro q
  rw [List.count_append]
  by_cases hq : Red q
  · exact slopes_count hp hA hB hC ht hq
  · have h1 : (slopes A).count q = 0 := List.count_eq_zero.2 fun h => hq (slopes_red hA q h)
    have h2 : (slopes B).count q = 0 := List.count_eq_zero.2 fun h => hq (slopes_red hB q h)
    have h3 : (slopes C).count q = 0 := List.count_eq_zero.2 fun h => hq (slopes_red hC q h)
    omega
theorem slopes_sorted {p : Nat} {f : List Int} {L : List Sd} (h : Pg p f L) : (slopes L).Pairwise fle := by
  obtain ⟨k, _, _, h3⟩ := h
  have hr := h3.rise
  clear h3
  induction L with
  | nil => simp [slopes]
  | cons s L ih =>
    obtain ⟨h1, h2⟩ := List.pairwise_cons.1 hr
    rw [slopes_cons, List.pairwise_append]
    refine ⟨?_, ih h2, fun x hx y hy => ?_⟩
    · rw [List.pairwise_replicate]
      right; unfold fle; omega
    · rw [List.eq_of_mem_replicate hx]
      unfold slopes at hy
      obtain ⟨s', hs', hy⟩ := List.mem_flatMap.1 hy
      rw [List.eq_of_mem_replicate hy]
      have := h1 s' hs'
      unfold flt at this
      unfold fle
      omega
/-- the slopes of a product: what is in order, and made of both, is they -/
theorem slopes_merge {p : Nat} (hp : Prm p) {f g t : List Int} {A B C : List Sd} (hA : Pg p f A) (hB : Pg p g B) (hC : Pg p t C) (ht : IsProd f g t)
    {l : List (Int × Int)} (h1 : l.Perm (slopes A ++ slopes B)) (h2 : l.Pairwise fle) : slopes C = l := by
  refine List.Perm.eq_of_pairwise (le := fle) ?_ (slopes_sorted hC) h2 ((slopes_perm hp hA hB hC ht).trans h1.symm)
  intro a b ha hb h3 h4
  refine Red.eq (slopes_red hC a ha) ?_ (by unfold fle at *; omega)
  rcases List.mem_append.1 (h1.mem_iff.1 hb) with h | h
  · exact slopes_red hA b h
  · exact slopes_red hB b h
/-- one side in lowest terms of the whole degree: no product -/
theorem pure_none {p : Nat} (hp : Prm p) {f g t : List Int} (hf : 2 ≤ f.length) (hg : 2 ≤ g.length) (lf : nz (cf f) (f.length - 1)) (lg : nz (cf g) (g.length - 1)) (ht : IsProd f g t)
    {s : Sd} (hC : Pg p t [s]) (h0 : nz (cf t) 0) (hd : s.2.2.2 = (t.length : Int) - 1) : False := by
  obtain ⟨A, hA⟩ := Pg.ex p (by omega) lf
  obtain ⟨B, hB⟩ := Pg.ex p (by omega) lg
  obtain ⟨k, k1, k2, k3⟩ := hC
  have hk : k = 0 := by
    rcases Nat.eq_zero_or_pos k with e | e
    · exact e
    · exact absurd h0 (k2 0 e)
  subst hk
  have hC : Pg p t [s] := ⟨0, k1, k2, k3⟩
  cases k3 with
  | @step _ b _ n td =>
    cases td with
    | done e =>
      have hb : 0 < b := n.1
      have hlen := ht.2.2.1
      obtain ⟨hr, _, _⟩ := frc_spec (od p (cf t) b - od p (cf t) 0) ((b : Int) - (0 : Nat)) (by omega)
      simp only at hd
      generalize frc (od p (cf t) b - od p (cf t) 0) ((b : Int) - (0 : Nat)) = q at *
      have hc := slopes_count hp hA hB hC ht hr
      rw [show (slopes [((0, b, q) : Sd)]).count q = b by rw [slopes_cons, List.count_append, count_rep]; simp [slopes]] at hc
      obtain ⟨i1, j1, hi1, hj1, e1⟩ := hA.places hr
      obtain ⟨i2, j2, hi2, hj2, e2⟩ := hB.places hr
      have hj1b := hj1.2.1
      have hj2b := hj2.2.1
      have hi0 : i1 = 0 := by omega
      have hjf : j1 = f.length - 1 := by omega
      subst hi0
      have hv : vl (od p (cf f)) q 0 = vl (od p (cf f)) q j1 := by
        have := hi1.2.2.2.1 j1 (by omega) hj1b hj1.2.2.1
        have := hj1.2.2.2.1 0 (by omega) hi1.2.1 hi1.2.2.1
        omega
      unfold vl at hv
      have hdv : q.2 ∣ (j1 : Int) := by
        have h1 : q.2 ∣ q.1 * (j1 : Int) := ⟨od p (cf f) j1 - od p (cf f) 0, by rw [Int.mul_sub]; omega⟩
        have h2 : Int.gcd q.2 (q.1 * j1) = q.2.natAbs := Int.gcd_eq_natAbs_left h1
        have h3 : Int.gcd q.2 j1 = q.2.natAbs := by
          rw [← Int.gcd_mul_right_right_of_gcd_eq_one (n := q.2) (m := q.1) (k := j1) (by rw [Int.gcd_comm]; exact hr.2)]; exact h2
        exact Int.gcd_eq_natAbs_left_iff_dvd.1 h3
      have := Int.le_of_dvd (by omega) hdv
      omega
theorem ord_one {p : Nat} (hp : 2 ≤ p) : ord p 1 = 0 := by
  have := ord_eq hp (k := 0) (m := 1) (fun h => by have := Int.le_of_dvd (by omega) h; omega)
  simpa using this
theorem ord_neg {p : Nat} (hp : 2 ≤ p) {x : Int} (h : x ≠ 0) : ord p (-x) = ord p x := by
  obtain ⟨m, h1, h2⟩ := ord_spec hp h
  have := ord_eq hp (k := ord p x) (m := -m) (fun h => h2 (Int.dvd_neg.1 h))
  rw [← this]
  congr 1
  conv => lhs; rw [h1]
  grind
/-- the slope of a root -/
theorem root_slope {p : Nat} (hp : Prm p) {f t : List Int} {x : Int} (hx : x ≠ 0) (lf : nz (cf f) (f.length - 1)) (hf : 1 ≤ f.length) (ht : IsProd f [-x, 1] t) {C : List Sd} (hC : Pg p t C) :
    (-(ord p x : Int), (1 : Int)) ∈ slopes C := by
  obtain ⟨A, hA⟩ := Pg.ex p hf lf
  have hB : Pg p [-x, 1] [(0, 1, frc (od p (cf [-x, 1]) 1 - od p (cf [-x, 1]) 0) (((1 : Nat) : Int) - (0 : Nat)))] := by
    refine ⟨0, by simp [nz, cf]; exact hx, fun j h => by omega, .step ⟨by omega, by simp, by simp [nz, cf], fun j h1 h2 _ => ?_, fun j h1 h2 => ?_⟩ (.done (by simp))⟩
    · simp at h2
      obtain rfl : j = 1 := by omega
      exact Int.le_refl _
    · simp at h2; omega
  have e : frc (od p (cf [-x, 1]) 1 - od p (cf [-x, 1]) 0) (((1 : Nat) : Int) - (0 : Nat)) = (-(ord p x : Int), 1) := by
    have h1 : od p (cf [-x, 1]) 1 = 0 := by simp [od, cf, ord_one hp.1]
    have h2 : od p (cf [-x, 1]) 0 = ord p x := by simp [od, cf, ord_neg hp.1 hx]
    rw [h1, h2]
    simp [frc]
  rw [e] at hB
  have hr : Red (-(ord p x : Int), 1) := ⟨by simp, by simp⟩
  have hc := slopes_count hp hA hB hC ht hr
  rw [show (slopes [((0, 1, (-(ord p x : Int), 1)) : Sd)]).count (-(ord p x : Int), 1) = 1 by simp [slopes]] at hc
  exact List.count_pos_iff.1 (by omega)
/-- a number that the prime does not divide changes nothing -/
theorem Pg.mul {p : Nat} (hp : Prm p) {f g : List Int} {L : List Sd} {b : Int} (hb : ¬ (p : Int) ∣ b) (hl : g.length = f.length) (hg : ∀ i, cf g i = cf f i * b) (h : Pg p f L) : Pg p g L := by
  have hb0 : b ≠ 0 := by rintro rfl; exact hb ⟨0, by simp⟩
  have hn : nz (cf g) = nz (cf f) := by
    funext i
    unfold nz
    rw [hg]
    apply propext
    constructor
    · intro h e; exact h (by rw [e]; simp)
    · intro h e; rcases Int.mul_eq_zero.1 e with e | e
      · exact h e
      · exact hb0 e
  have hob : ord p b = 0 := by
    have := ord_eq hp.1 (k := 0) hb
    simpa using this
  have ho : od p (cf g) = od p (cf f) := by
    funext i
    unfold od
    rw [hg]
    by_cases e : cf f i = 0
    · rw [e]; simp
    · obtain ⟨m, h1, h2⟩ := ord_mul hp e hb0
      rw [h1, ord_eq hp.1 h2, hob]; simp
  obtain ⟨k, h1, h2, h3⟩ := h
  refine ⟨k, by rw [hn]; exact h1, by rw [hn]; exact h2, ?_⟩
  rw [hn, ho, hl]; exact h3
end Go.Proofs.Ytdkobkghhnccgaa.Np
