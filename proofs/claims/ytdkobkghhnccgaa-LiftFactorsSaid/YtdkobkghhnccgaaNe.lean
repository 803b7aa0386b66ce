/- Mathematics: the corners of a polygon, found point by point. -/
import Derived.Test.YtdkobkghhnccgaaNb
import Derived.Test.YtdkobkghhnccgaaRw
import Derived.Test.YtdkobkghhnccgaaE
namespace Go.Proofs.Ytdkobkghhnccgaa
open Go.RowKit
open Np (frc Red ord Prm fle flt cf nz od Sides Sd Pg)
/-- a corner, a fraction, a side in memory -/
def encC (x : Nat × Nat) : List Value := [.int .i64 x.1, .int .i64 x.2]
def EC : Enc (Nat × Nat) 2 := ⟨encC, fun _ => rfl, fun x v h => by simp [encC] at h; rcases h with rfl | rfl <;> rfl⟩
def encQ (q : Int × Int) : List Value := [.int .i64 q.1, .int .i64 q.2]
def EQ : Enc (Int × Int) 2 := ⟨encQ, fun _ => rfl, fun x v h => by simp [encQ] at h; rcases h with rfl | rfl <;> rfl⟩
def encS (s : Sd) : List Value := [.int .i64 s.1, .int .i64 s.2.1, .int .i64 s.2.2.1, .int .i64 s.2.2.2]
def ES : Enc Sd 4 := ⟨encS, fun _ => rfl, fun x v h => by simp [encS] at h; rcases h with rfl | rfl | rfl | rfl <;> rfl⟩
theorem elt98 : Elt EC 96 98 (.agg #[.int .i64 0, .int .i64 0]) 16 := ⟨by kernel_rfl, rfl, by omega, Try.underlying96, by omega⟩
theorem elt71 : Elt ES 54 71 (.agg #[.int .i64 0, .int .i64 0, .int .i64 0, .int .i64 0]) 32 := ⟨by kernel_rfl, rfl, by omega, Try.underlying54, by omega⟩
theorem elt66 : Elt ES 62 66 (.agg #[.int .i64 0, .int .i64 0, .int .i64 0, .int .i64 0]) 32 := ⟨by kernel_rfl, rfl, by omega, Try.underlying62, by omega⟩
theorem elt64 : Elt EQ 57 64 (.agg #[.int .i64 0, .int .i64 0]) 16 := ⟨by kernel_rfl, rfl, by omega, Try.underlying57, by omega⟩
/-- the places of coefficients other than 0, and the corners there -/
def nzs (f : List Int) (k : Nat) : List Nat := (List.range k).filter fun i => decide (f.getD i 0 ≠ 0)
def pts (P : Nat) (f : List Int) (k : Nat) : List (Nat × Nat) := (nzs f k).map fun i => (i, ord P (f.getD i 0))
theorem nzs_yes {f : List Int} {k : Nat} (h : f.getD k 0 ≠ 0) : nzs f (k + 1) = nzs f k ++ [k] := by
  unfold nzs; rw [List.range_succ, List.filter_append, List.filter_cons_of_pos (by simpa using h)]; rfl
theorem nzs_no {f : List Int} {k : Nat} (h : f.getD k 0 = 0) : nzs f (k + 1) = nzs f k := by
  unfold nzs; rw [List.range_succ, List.filter_append, List.filter_cons_of_neg (by simpa using h)]; simp
theorem pts_yes {P : Nat} {f : List Int} {k : Nat} (h : f.getD k 0 ≠ 0) : pts P f (k + 1) = pts P f k ++ [(k, ord P (f.getD k 0))] := by
  unfold pts; rw [nzs_yes h, List.map_append]; rfl
theorem pts_no {P : Nat} {f : List Int} {k : Nat} (h : f.getD k 0 = 0) : pts P f (k + 1) = pts P f k := by
  unfold pts; rw [nzs_no h]
theorem nzs_le (f : List Int) (k : Nat) : (nzs f k).length ≤ k := by
  have := List.length_filter_le (fun i => decide (f.getD i 0 ≠ 0)) (List.range k)
  unfold nzs; simpa using this
theorem pts_length (P : Nat) (f : List Int) (k : Nat) : (pts P f k).length = (nzs f k).length := by simp [pts]
theorem two_pow_le (k : Nat) : (k : Int) + 1 ≤ 2 ^ k := by
  induction k with
  | zero => simp
  | succ k ih => rw [Int.pow_succ]; omega
theorem pow_le {P : Nat} (h : 2 ≤ P) (k : Nat) : (2 : Int) ^ k ≤ (P : Int) ^ k := by
  induction k with
  | zero => simp
  | succ k ih =>
    rw [Int.pow_succ, Int.pow_succ]
    have h0 := Np.pow_pos' (p := 2) (by omega) k
    exact Int.mul_le_mul ih (by omega) (by omega) (by have := Np.pow_pos' h k; omega)
theorem pow2_mono (a b : Nat) (h : a ≤ b) : (2 : Int) ^ a ≤ 2 ^ b := by
  have := Np.pow_dvd (p := 2) h
  exact Int.le_of_dvd (by have h := Np.pow_pos' (p := 2) (by omega) b; have h : (1 : Int) ≤ 2 ^ b := h; omega) (by simpa using this)
/-- orders of coefficients are small -/
theorem ord_le9 {P : Nat} (hP : isP P) {n : Int} (h0 : n ≠ 0) (h1 : -1000 ≤ n) (h2 : n ≤ 1000) : ord P n ≤ 9 := by
  rcases Nat.lt_or_ge 9 (ord P n) with g | g
  · exfalso
    obtain ⟨m, hm, hm2⟩ := Np.ord_spec hP.pos h0
    have hd : (P : Int) ^ (ord P n) ∣ (n.natAbs : Int) := Int.dvd_natAbs.2 ⟨m, hm⟩
    have h3 := Int.le_of_dvd (by omega) hd
    have h4 := pow_le hP.pos (ord P n)
    have h5 := pow2_mono 10 (ord P n) (by omega)
    have h6 : (2 : Int) ^ 10 = 1024 := by decide
    omega
  · exact g
theorem pts_bd {P : Nat} (hP : isP P) {f : List Int} (hf : Poly f) {k : Nat} (hk : k ≤ f.length) {x : Nat × Nat} (h : x ∈ pts P f k) : x.1 < k ∧ x.2 ≤ 9 := by
  unfold pts at h
  obtain ⟨i, hi, rfl⟩ := List.mem_map.1 h
  unfold nzs at hi
  obtain ⟨h1, h2⟩ := List.mem_filter.1 hi
  have h3 := List.mem_range.1 h1
  have := hf.1 i (by omega)
  exact ⟨h3, ord_le9 hP (by simpa using h2) this.1 this.2⟩
/-- the points, by their numbers -/
def px (X : List (Nat × Nat)) (j : Nat) : Nat := (X.getD j (0, 0)).1
def py (X : List (Nat × Nat)) (j : Nat) : Int := (X.getD j (0, 0)).2
structure En (P : Nat) (f : List Int) (N : Nat) (X : List (Nat × Nat)) : Prop where
  mono : ∀ i j, i < j → j < X.length → px X i < px X j
  here : ∀ i, i < X.length → nz (cf f) (px X i) ∧ px X i < N ∧ od P (cf f) (px X i) = py X i
  all : ∀ p, p < N → nz (cf f) p → ∃ i, i < X.length ∧ px X i = p
theorem getD_left {α : Type} (X : List α) (a d : α) {j : Nat} (h : j < X.length) : (X ++ [a]).getD j d = X.getD j d := by
  rw [List.getD_eq_getElem?_getD, List.getElem?_append_left h, ← List.getD_eq_getElem?_getD]
theorem getD_last {α : Type} (X : List α) (a d : α) : (X ++ [a]).getD X.length d = a := by
  rw [List.getD_eq_getElem?_getD, List.getElem?_append_right (Nat.le_refl _)]; simp
theorem pts_en (P : Nat) (f : List Int) : ∀ k, En P f k (pts P f k) := by
  intro k
  induction k with
  | zero => exact ⟨fun i j _ h => by simp [pts, nzs] at h, fun i h => by simp [pts, nzs] at h, fun p h => by omega⟩
  | succ k ih =>
    by_cases hz : f.getD k 0 = 0
    · rw [pts_no hz]
      refine ⟨ih.mono, fun i hi => ?_, fun p hp hn => ?_⟩
      · have := ih.here i hi
        exact ⟨this.1, by omega, this.2.2⟩
      · by_cases e : p = k
        · subst e; exact absurd hz hn
        · exact ih.all p (by omega) hn
    · rw [pts_yes hz]
      have gl : ∀ j, j < (pts P f k).length → px (pts P f k ++ [(k, ord P (f.getD k 0))]) j = px (pts P f k) j ∧ py (pts P f k ++ [(k, ord P (f.getD k 0))]) j = py (pts P f k) j := fun j h => by
        unfold px py; rw [getD_left _ _ _ h]; exact ⟨rfl, rfl⟩
      have gk : px (pts P f k ++ [(k, ord P (f.getD k 0))]) (pts P f k).length = k ∧ py (pts P f k ++ [(k, ord P (f.getD k 0))]) (pts P f k).length = (ord P (f.getD k 0) : Nat) := by
        unfold px py; rw [getD_last]; exact ⟨rfl, rfl⟩
      have hlen : (pts P f k ++ [(k, ord P (f.getD k 0))]).length = (pts P f k).length + 1 := by simp
      refine ⟨fun i j hij hj => ?_, fun i hi => ?_, fun p hp hn => ?_⟩
      · rw [hlen] at hj
        by_cases e : j = (pts P f k).length
        · subst e
          rw [(gl i hij).1, gk.1]
          exact (ih.here i hij).2.1
        · rw [(gl i (by omega)).1, (gl j (by omega)).1]
          exact ih.mono i j hij (by omega)
      · rw [hlen] at hi
        by_cases e : i = (pts P f k).length
        · subst e
          rw [gk.1, gk.2]
          exact ⟨hz, by omega, rfl⟩
        · rw [(gl i (by omega)).1, (gl i (by omega)).2]
          have := ih.here i (by omega)
          exact ⟨this.1, by omega, this.2.2⟩
      · by_cases e : p = k
        · exact ⟨(pts P f k).length, by rw [hlen]; omega, by rw [gk.1, e]⟩
        · obtain ⟨i, h1, h2⟩ := ih.all p (by omega) hn
          exact ⟨i, by rw [hlen]; omega, by rw [(gl i h1).1]; exact h2⟩
/-- b is the best number behind k and below j -/
def IB (x : Nat → Nat) (y : Nat → Int) (k b j : Nat) : Prop :=
  k < b ∧ b < j ∧ (∀ i, k < i → i < j → (y b - y k) * ((x i : Int) - x k) ≤ (y i - y k) * ((x b : Int) - x k)) ∧
    ∀ i, b < i → i < j → (y b - y k) * ((x i : Int) - x k) < (y i - y k) * ((x b : Int) - x k)
theorem IB.first (x : Nat → Nat) (y : Nat → Int) (k : Nat) : IB x y k (k + 1) (k + 2) := by
  refine ⟨by omega, by omega, fun i h1 h2 => ?_, fun i h1 h2 => by omega⟩
  obtain rfl : i = k + 1 := by omega
  exact Int.le_refl _
theorem IB.swap {x : Nat → Nat} {y : Nat → Int} {k b j : Nat} (h : IB x y k b j) (hm : ∀ i, k < i → i ≤ j → x k < x i) (hle : (y j - y k) * ((x b : Int) - x k) ≤ (y b - y k) * ((x j : Int) - x k)) : IB x y k j (j + 1) := by
  obtain ⟨h1, h2, h3, h4⟩ := h
  refine ⟨by omega, by omega, fun i g1 g2 => ?_, fun i g1 g2 => by omega⟩
  rcases Nat.lt_or_ge i j with g | g
  · have m1 := hm b h1 (by omega)
    have m2 := hm j (by omega) (Nat.le_refl _)
    have m3 := hm i g1 (by omega)
    exact Np.cr_le (y := (x b : Int) - x k) (by omega) (by omega) (by omega) hle (h3 i g1 g)
  · obtain rfl : i = j := by omega
    exact Int.le_refl _
theorem IB.keep {x : Nat → Nat} {y : Nat → Int} {k b j : Nat} (h : IB x y k b j) (hlt : (y b - y k) * ((x j : Int) - x k) < (y j - y k) * ((x b : Int) - x k)) : IB x y k b (j + 1) := by
  obtain ⟨h1, h2, h3, h4⟩ := h
  refine ⟨h1, by omega, fun i g1 g2 => ?_, fun i g1 g2 => ?_⟩
  · rcases Nat.lt_or_ge i j with g | g
    · exact h3 i g1 g
    · obtain rfl : i = j := by omega
      exact Int.le_of_lt hlt
  · rcases Nat.lt_or_ge i j with g | g
    · exact h4 i g1 g
    · obtain rfl : i = j := by omega
      exact hlt
theorem IB.next {P : Nat} {f : List Int} {N : Nat} {X : List (Nat × Nat)} (E : En P f N X) {k b : Nat} (h : IB (px X) (py X) k b X.length) : Np.Next (nz (cf f)) (od P (cf f)) N (px X k) (px X b) := by
  obtain ⟨h1, h2, h3, h4⟩ := h
  have hk := E.here k (by omega)
  have hb := E.here b h2
  have num : ∀ i j, i < X.length → j < X.length → px X i < px X j → i < j := fun i j hi hj hl => by
    rcases Nat.lt_trichotomy i j with g | g | g
    · exact g
    · subst g; omega
    · have := E.mono j i g hi; omega
  refine ⟨E.mono k b h1 h2, hb.2.1, hb.1, fun p g1 g2 g3 => ?_, fun p g1 g2 g3 => ?_⟩
  · obtain ⟨i, hi, rfl⟩ := E.all p g2 g3
    rw [hk.2.2, hb.2.2, (E.here i hi).2.2]
    exact h3 i (num k i (by omega) hi g1) hi
  · obtain ⟨i, hi, rfl⟩ := E.all p g2 g3
    rw [hk.2.2, hb.2.2, (E.here i hi).2.2]
    exact h4 i (num b i h2 hi g1) hi
/-- the sides so far: whatever follows completes them -/
def Upto (P : Nat) (f : List Int) (X : List (Nat × Nat)) (k : Nat) (L : List Sd) : Prop :=
  ∀ L', Sides (nz (cf f)) (od P (cf f)) f.length (px X k) L' → Sides (nz (cf f)) (od P (cf f)) f.length (px X 0) (L ++ L')
theorem Upto.zero (P : Nat) (f : List Int) (X : List (Nat × Nat)) : Upto P f X 0 [] := fun _ h => h
/-- the side from k to b -/
def sd (X : List (Nat × Nat)) (k b : Nat) : Sd := (px X k, px X b, frc (py X b - py X k) ((px X b : Int) - px X k))
theorem Upto.step {P : Nat} {f : List Int} {X : List (Nat × Nat)} (E : En P f f.length X) {k b : Nat} {L : List Sd} (h : Upto P f X k L) (hb : IB (px X) (py X) k b X.length) : Upto P f X b (L ++ [sd X k b]) := by
  intro L' hL'
  rw [List.append_assoc]
  refine h _ ?_
  have hk := E.here k (by have := hb.1; have := hb.2.1; omega)
  have hbb := E.here b hb.2.1
  have := Sides.step (hb.next E) hL'
  rw [hk.2.2, hbb.2.2] at this
  exact this
theorem Upto.done {P : Nat} {f : List Int} {X : List (Nat × Nat)} (E : En P f f.length X) (h0 : 0 < f.length) (hl : nz (cf f) (f.length - 1)) {k : Nat} (hk : k + 1 = X.length) {L : List Sd} (h : Upto P f X k L) : Pg P f L := by
  obtain ⟨i, hi, e⟩ := E.all (f.length - 1) (by omega) hl
  have hlast : px X k = f.length - 1 := by
    have h1 := (E.here k (by omega)).2.1
    rcases Nat.lt_or_ge i k with g | g
    · have := E.mono i k g (by omega); omega
    · obtain rfl : i = k := by omega
      exact e
  have := h [] (.done (by omega))
  rw [List.append_nil] at this
  refine ⟨px X 0, (E.here 0 (by omega)).1, fun j hj hn => ?_, this⟩
  obtain ⟨i, hi, e⟩ := E.all j (by have := (E.here 0 (by omega)).2.1; omega) hn
  rcases Nat.eq_zero_or_pos i with g | g
  · subst g; omega
  · have := E.mono 0 i g hi; omega
end Go.Proofs.Ytdkobkghhnccgaa

