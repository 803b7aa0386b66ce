/- Plain mathematics of polynomials modulo powers: values, derivatives, roots, lifting. -/
import Derived.Test.YtdkobkghhnccgaaK
namespace Go.Proofs.Ytdkobkghhnccgaa
set_option linter.unusedVariables false
/-- the value of a polynomial, the coefficient of x^0 first -/
def ev : List Int → Int → Int
  | [], _ => 0
  | c :: t, x => c + x * ev t x
theorem ev_drop (f : List Int) (x : Int) (i : Nat) (h : i < f.length) : ev (f.drop i) x = f.getD i 0 + x * ev (f.drop (i + 1)) x := by
  rw [List.drop_eq_getElem_cons h, ev]
  simp [h]
/-- one step of Horner's rule modulo m -/
theorem horner (a x c m : Int) : ((a % m) * x + c) % m = (c + x * a) % m := by
  rw [Int.add_emod, Int.mul_emod, Int.emod_emod, ← Int.mul_emod, ← Int.add_emod, Int.add_comm, Int.mul_comm a x]
def pw (x : Int) : Nat → Int
  | 0 => 1
  | n + 1 => pw x n * x
theorem ev_append (f g : List Int) (x : Int) : ev (f ++ g) x = ev f x + pw x f.length * ev g x := by
  induction f with
  | nil => simp [ev, pw]
  | cons c t ih =>
    rw [List.cons_append, ev, ev, ih, List.length_cons, pw, Int.mul_add, Int.add_assoc, ← Int.mul_assoc, Int.mul_comm x (pw x t.length)]
theorem ev_take (f : List Int) (x : Int) (k : Nat) (h : k < f.length) : ev (f.take (k + 1)) x = ev (f.take k) x + pw x k * f.getD k 0 := by
  rw [List.take_succ_eq_append_getElem h, ev_append, List.length_take, Nat.min_eq_left (by omega)]
  simp [ev, h]
/-- one step of the reference's sum -/
theorem sum_step (s p c m : Int) (hm : 0 < m) : (s % m + (c.tmod m + m) * (p % m)) % m = (s + p * c) % m := by
  have e : (c.tmod m + m) % m = c % m := by
    rw [Int.add_emod_right, Int.tmod_eq_emod]
    split
    · simp
    · rw [Int.sub_emod, Int.emod_emod]
      have : ((m.natAbs : Int)) % m = 0 := by
        rw [show ((m.natAbs : Int)) = m by omega]; exact Int.emod_self
      rw [this]; simp
  rw [Int.add_emod, Int.emod_emod, Int.mul_emod, e, Int.emod_emod, ← Int.mul_emod, ← Int.add_emod, Int.mul_comm c p]
theorem pow_step (p x m : Int) : (p % m) * x % m = (p * x) % m := by
  rw [Int.mul_emod, Int.emod_emod, ← Int.mul_emod]
/-- the derivative -/
def dvk (f : List Int) (k : Nat) : List Int := (List.range k).map fun i => f.getD (i + 1) 0 * ((i : Int) + 1)
def dv (f : List Int) : List Int := dvk f (f.length - 1)
theorem dvk_succ (f : List Int) (k : Nat) : dvk f (k + 1) = dvk f k ++ [f.getD (k + 1) 0 * ((k : Int) + 1)] := by simp [dvk, List.range_succ]
theorem dvk_length (f : List Int) (k : Nat) : (dvk f k).length = k := by simp [dvk]
/-- the value of (shifted) derivative: sum of (i + s) f_i x^i -/
def de : List Int → Int → Int → Int
  | [], _, _ => 0
  | c :: t, s, x => s * c + x * de t (s + 1) x
theorem de_shift (f : List Int) (s x : Int) : de f (s + 1) x = de f s x + ev f x := by
  induction f generalizing s with
  | nil => simp [de, ev]
  | cons c t ih =>
    rw [de, de, ev, ih (s + 1), Int.mul_add, Int.add_mul, Int.one_mul]
    omega
theorem ev_range (g : Nat → Int) (x : Int) : ∀ (k : Nat) (s : Nat), ev ((List.range k).map fun i => g (s + i) * ((s : Int) + i + 1)) x = de ((List.range k).map fun i => g (s + i)) ((s : Int) + 1) x := by
  intro k
  induction k with
  | zero => intro s; rfl
  | succ k ih =>
    intro s
    rw [List.range_succ_eq_map, List.map_cons, List.map_cons, ev, de, List.map_map, List.map_map]
    have e1 : ((fun i : Nat => g (s + i) * ((s : Int) + i + 1)) ∘ Nat.succ) = fun i : Nat => g (s + 1 + i) * (((s + 1 : Nat) : Int) + i + 1) := by
      funext i
      simp only [Function.comp]
      rw [show s + Nat.succ i = s + 1 + i by omega]
      congr 1
      omega
    have e2 : ((fun i : Nat => g (s + i)) ∘ Nat.succ) = fun i : Nat => g (s + 1 + i) := by
      funext i
      simp only [Function.comp]
      rw [show s + Nat.succ i = s + 1 + i by omega]
    rw [e1, e2, ih (s + 1)]
    have e3 : (((s + 1 : Nat) : Int) + 1) = (s : Int) + 1 + 1 := by omega
    rw [e3]
    congr 1
    rw [Nat.add_zero, Int.mul_comm]
    congr 1
theorem ev_dv (f : List Int) (x : Int) : ev (dv f) x = de f.tail 1 x := by
  have h := ev_range (fun i => f.getD (i + 1) 0) x (f.length - 1) 0
  have e1 : dv f = (List.range (f.length - 1)).map fun i => (fun i => f.getD (i + 1) 0) (0 + i) * (((0 : Nat) : Int) + i + 1) := by
    unfold dv dvk
    apply List.map_congr_left
    intro i _
    simp
  have e2 : f.tail = (List.range (f.length - 1)).map fun i => (fun i => f.getD (i + 1) 0) (0 + i) := by
    apply List.ext_getElem
    · simp
    · intro i h1 h2
      simp only [List.length_tail] at h1
      simp [List.getD, show i + 1 < f.length by omega]
  rw [e1, e2]
  exact h
/-- Taylor's formula up to the second order -/
theorem taylor (f : List Int) (x h : Int) : ∃ k, ev f (x + h) = ev f x + h * de f.tail 1 x + h * h * k := by
  induction f with
  | nil => exact ⟨0, by simp [ev, de]⟩
  | cons c t ih =>
    obtain ⟨k, hk⟩ := ih
    match t, hk with
    | [], _ => exact ⟨0, by simp [ev, de]⟩
    | d :: u, hk =>
      refine ⟨de u 1 x + (x + h) * k, ?_⟩
      simp only [List.tail_cons] at hk ⊢
      rw [show ev (c :: d :: u) (x + h) = c + (x + h) * ev (d :: u) (x + h) from rfl, hk, show ev (c :: d :: u) x = c + x * ev (d :: u) x from rfl]
      rw [show de (d :: u) 1 x = ev (d :: u) x + x * de u 1 x by
        rw [de, ev, show (1 : Int) + 1 = 1 + 1 from rfl, de_shift u 1 x, Int.mul_add]; omega]
      generalize ev (d :: u) x = A
      generalize de u 1 x = B
      simp only [Int.mul_add, Int.mul_comm, Int.mul_left_comm]
      omega
/-- congruent numbers have congruent values -/
theorem ev_congr (f : List Int) (x y m : Int) (h : m ∣ x - y) : m ∣ ev f x - ev f y := by
  obtain ⟨k, hk⟩ := taylor f y (x - y)
  rw [show y + (x - y) = x by omega] at hk
  rw [hk]
  have e : ev f y + (x - y) * de f.tail 1 y + (x - y) * (x - y) * k - ev f y = (x - y) * (de f.tail 1 y + (x - y) * k) := by
    rw [Int.mul_add, Int.mul_assoc]; omega
  rw [e]
  exact Int.dvd_trans h ⟨_, rfl⟩
theorem emod_eq_of_dvd_sub {a b m : Int} (h : m ∣ a - b) : a % m = b % m := by
  have := Int.emod_emod_of_dvd (a - b) h
  rw [Int.emod_eq_emod_iff_emod_sub_eq_zero]
  exact Int.emod_eq_zero_of_dvd h
theorem ev_mod (f : List Int) (x m : Int) : ev f (x % m) % m = ev f x % m := by
  apply emod_eq_of_dvd_sub
  apply ev_congr
  have := Int.emod_add_mul_ediv x m
  exact ⟨-(x / m), by rw [Int.mul_neg]; omega⟩
/-- the powers of p, as the program makes them -/
def pn (p : Nat) : Nat → Nat
  | 0 => 1
  | k + 1 => pn p k * p
theorem pn_pos {p : Nat} (h : 0 < p) : ∀ k, 0 < pn p k := by
  intro k
  induction k with
  | zero => simp [pn]
  | succ k ih => exact Nat.mul_pos ih h
theorem pn_add (p a b : Nat) : pn p (a + b) = pn p a * pn p b := by
  induction b with
  | zero => simp [pn]
  | succ b ih => rw [← Nat.add_assoc, pn, ih, pn, Nat.mul_assoc]
/-- all roots modulo q -/
def rootsL (f : List Int) (q : Nat) : List Int := ((List.range q).map (fun x : Nat => (x : Int))).filter fun x => ev f x % q == 0
theorem mem_rootsL {f : List Int} {q : Nat} {x : Int} : x ∈ rootsL f q ↔ 0 ≤ x ∧ x < q ∧ ev f x % q = 0 := by
  unfold rootsL
  rw [List.mem_filter, List.mem_map]
  constructor
  · rintro ⟨⟨n, hn, rfl⟩, h⟩
    rw [List.mem_range] at hn
    exact ⟨by omega, by omega, by simpa using h⟩
  · rintro ⟨h1, h2, h3⟩
    exact ⟨⟨x.toNat, by rw [List.mem_range]; omega, by omega⟩, by simpa using h3⟩
theorem rootsL_lt (f : List Int) (q : Nat) : (rootsL f q).Pairwise (· < ·) := by
  unfold rootsL
  apply List.Pairwise.filter
  rw [List.pairwise_map]
  exact List.pairwise_lt_range.imp (fun h => by omega)
theorem nodup_of_lt {l : List Int} (h : l.Pairwise (· < ·)) : l.Nodup := h.imp (fun h e => by omega)
/-- the branches above a root -/
def aboveL (f : List Int) (p m : Nat) (r : Int) (k : Nat) : List Int := ((List.range k).map (fun d : Nat => r + d * m)).filter fun x => ev f x % ((m * p : Nat) : Int) == 0
def stage (f : List Int) (p : Nat) : Nat → List Int
  | 0 => [0]
  | j + 1 => (stage f p j).flatMap fun r => aboveL f p (pn p j) r p
theorem mem_above (f : List Int) (p m : Nat) (_ : 0 < p) (hm : 0 < m) (S : List Int) (ih : ∀ x, x ∈ S ↔ 0 ≤ x ∧ x < m ∧ ev f x % (m : Nat) = 0) (x : Int) :
    x ∈ S.flatMap (fun r => aboveL f p m r p) ↔ 0 ≤ x ∧ x < (m * p : Nat) ∧ ev f x % ((m * p : Nat) : Int) = 0 := by
  rw [List.mem_flatMap]
  constructor
  · rintro ⟨r, hr, hx⟩
    obtain ⟨h1, h2, h3⟩ := (ih r).1 hr
    unfold aboveL at hx
    rw [List.mem_filter, List.mem_map] at hx
    obtain ⟨⟨d, hd, rfl⟩, h⟩ := hx
    rw [List.mem_range] at hd
    have e : ((d * m : Nat) : Int) = (d : Int) * m := by simp
    have h4 : (d : Int) * m + m ≤ (m * p : Nat) := by
      have : (d + 1) * m ≤ m * p := by rw [Nat.mul_comm m p]; exact Nat.mul_le_mul_right m hd
      rw [Nat.add_mul, Nat.one_mul] at this
      omega
    exact ⟨by omega, by omega, by simpa using h⟩
  · rintro ⟨h1, h2, h3⟩
    have hmd : ((m : Nat) : Int) ∣ ((m * p : Nat) : Int) := ⟨p, by simp⟩
    refine ⟨x % m, (ih _).2 ⟨Int.emod_nonneg _ (by omega), Int.emod_lt_of_pos _ (by omega), ?_⟩, ?_⟩
    · rw [ev_mod]
      exact Int.emod_eq_zero_of_dvd (Int.dvd_trans hmd (Int.dvd_of_emod_eq_zero h3))
    · unfold aboveL
      rw [List.mem_filter, List.mem_map]
      have hq : x / m < p := Int.ediv_lt_of_lt_mul (by omega) (by rw [Int.mul_comm]; simpa using h2)
      have hq0 : 0 ≤ x / m := Int.ediv_nonneg h1 (by omega)
      refine ⟨⟨(x / m).toNat, by rw [List.mem_range]; omega, ?_⟩, by simpa using h3⟩
      have := Int.emod_add_mul_ediv x m
      rw [show (((x / m).toNat : Nat) : Int) = x / m by omega, Int.mul_comm]
      exact this
theorem mem_stage (f : List Int) (p : Nat) (hp : 0 < p) : ∀ (j : Nat) (x : Int), x ∈ stage f p j ↔ 0 ≤ x ∧ x < pn p j ∧ ev f x % (pn p j : Nat) = 0 := by
  intro j
  induction j with
  | zero =>
    intro x
    simp only [stage, List.mem_singleton, pn]
    constructor
    · rintro rfl; exact ⟨by omega, by omega, Int.emod_one _⟩
    · rintro ⟨h1, h2, _⟩; omega
  | succ j ih => exact fun x => mem_above f p (pn p j) hp (pn_pos hp j) _ ih x
theorem above_eq {f : List Int} {p m : Nat} {r x : Int} {k : Nat} (_ : 0 < m) (h : x ∈ aboveL f p m r k) (h0 : 0 ≤ r) (h1 : r < m) : x % m = r := by
  unfold aboveL at h
  rw [List.mem_filter, List.mem_map] at h
  obtain ⟨⟨d, _, rfl⟩, _⟩ := h
  rw [Int.add_mul_emod_self_right]
  exact Int.emod_eq_of_lt h0 h1
theorem above_lt (f : List Int) (p m : Nat) (hm : 0 < m) (r : Int) (k : Nat) : (aboveL f p m r k).Pairwise (· < ·) := by
  unfold aboveL
  apply List.Pairwise.filter
  rw [List.pairwise_map]
  refine List.pairwise_lt_range.imp (fun {a b} h => ?_)
  have : (a : Int) * m < b * m := Int.mul_lt_mul_of_pos_right (by omega) (by omega)
  omega
theorem stage_nodup (f : List Int) (p : Nat) (hp : 0 < p) : ∀ j, (stage f p j).Nodup := by
  intro j
  induction j with
  | zero => simp [stage]
  | succ j ih =>
    rw [stage]
    have hm := pn_pos hp j
    refine List.pairwise_flatMap.2 ⟨fun r _ => nodup_of_lt (above_lt f p _ hm r p), ?_⟩
    refine List.Pairwise.imp_of_mem ?_ ih
    intro a b ha hb hne x hx y hy e
    subst e
    have h1 := (mem_stage f p hp j a).1 ha
    have h2 := (mem_stage f p hp j b).1 hb
    exact hne ((above_eq hm hx h1.1 h1.2.1).symm.trans (above_eq hm hy h2.1 h2.2.1))
theorem stage_perm (f : List Int) (p : Nat) (hp : 0 < p) (j : Nat) : (stage f p j).Perm (rootsL f (pn p j)) :=
  (List.perm_ext_iff_of_nodup (stage_nodup f p hp j) (nodup_of_lt (rootsL_lt f _))).2 fun x => (mem_stage f p hp j x).trans mem_rootsL.symm
theorem stage_sorted (f : List Int) (p : Nat) (hp : 0 < p) (j : Nat) (s : List Int) (h : s.Perm (stage f p j)) (hs : s.Pairwise (· ≤ ·)) : s = rootsL f (pn p j) :=
  List.Perm.eq_of_pairwise (le := (· ≤ ·)) (fun a b _ _ h1 h2 => by omega) hs ((rootsL_lt f _).imp (fun h => by omega)) (h.trans (stage_perm f p hp j))
/-- of p numbers above a root just one is a root modulo the next power -/
def unitB (p : Nat) : Bool := (List.range p).all fun a => (List.range p).all fun b => a == 0 || ((List.range p).filter fun t => (b + t * a) % p == 0).length == 1
theorem unit_all : [2, 3, 5, 7, 11, 13].all unitB = true := by decide +kernel
def isP (p : Nat) : Prop := p = 2 ∨ p = 3 ∨ p = 5 ∨ p = 7 ∨ p = 11 ∨ p = 13
theorem isP.unit {p : Nat} (h : isP p) (a b : Nat) (ha : a < p) (hb : b < p) (h0 : a ≠ 0) : ∃ t, t < p ∧ (b + t * a) % p = 0 ∧ ∀ u, u < p → (b + u * a) % p = 0 → u = t := by
  have hu : unitB p = true := by
    have := List.all_eq_true.1 unit_all p (by rcases h with h | h | h | h | h | h <;> subst h <;> simp)
    exact this
  have h1 := List.all_eq_true.1 (List.all_eq_true.1 hu a (List.mem_range.2 ha)) b (List.mem_range.2 hb)
  simp only [Bool.or_eq_true, beq_iff_eq, h0, false_or] at h1
  obtain ⟨t, ht⟩ := List.length_eq_one_iff.1 h1
  have hm : t ∈ (List.range p).filter fun t => (b + t * a) % p == 0 := by rw [ht]; simp
  rw [List.mem_filter, List.mem_range] at hm
  refine ⟨t, hm.1, by simpa using hm.2, fun u hu1 hu2 => ?_⟩
  have hm2 : u ∈ (List.range p).filter fun t => (b + t * a) % p == 0 := by
    rw [List.mem_filter, List.mem_range]; exact ⟨hu1, by simpa using hu2⟩
  rw [ht] at hm2
  simpa using hm2
theorem isP.pos {p : Nat} (h : isP p) : 2 ≤ p := by rcases h with h | h | h | h | h | h <;> omega
/-- Hensel: above a root whose derivative p does not divide there is just one root of the next power -/
theorem hensel {p : Nat} (hp : isP p) (f : List Int) (m : Nat) (hm : 0 < m) (hpm : (p : Int) ∣ m) (r : Int) (hr : ev f r % m = 0) (hd : de f.tail 1 r % p ≠ 0) :
    ∃ t : Nat, t < p ∧ ev f (r + t * m) % ((m * p : Nat) : Int) = 0 ∧ ∀ u : Nat, u < p → ev f (r + u * m) % ((m * p : Nat) : Int) = 0 → u = t := by
  have h2 := hp.pos
  obtain ⟨c, hc⟩ := Int.dvd_of_emod_eq_zero hr
  have key : ∀ t : Nat, ev f (r + t * m) % ((m * p : Nat) : Int) = 0 ↔ ((c % p).toNat + t * (de f.tail 1 r % p).toNat) % p = 0 := by
    intro t
    obtain ⟨k, hk⟩ := taylor f r (t * m)
    obtain ⟨e, he⟩ := hpm
    have hx : ev f (r + t * m) = m * (c + t * de f.tail 1 r + p * (t * t * e * k)) := by
      rw [hk, hc]
      have e1 : (t : Int) * m * (t * m) * k = m * (p * (t * t * e * k)) := by
        have : (t : Int) * m * (t * m) * k = m * (m * (t * t * k)) := by simp only [Int.mul_comm, Int.mul_left_comm]
        rw [this]
        congr 1
        rw [show ((m : Nat) : Int) * (t * t * k) = (p * e) * (t * t * k) by rw [← he]]
        simp only [Int.mul_assoc, Int.mul_comm, Int.mul_left_comm]
      rw [e1, Int.mul_add, Int.mul_add]
      have e2 : (t : Int) * m * de f.tail 1 r = m * (t * de f.tail 1 r) := by simp only [Int.mul_assoc, Int.mul_comm]
      rw [e2]
    rw [hx]
    have hmp : (((m * p : Nat) : Nat) : Int) = m * p := by simp
    rw [hmp]
    have h3 : (m : Int) * (c + t * de f.tail 1 r + p * (t * t * e * k)) % (m * p) = 0 ↔ (c + t * de f.tail 1 r + p * (t * t * e * k)) % p = 0 := by
      rw [Int.mul_emod_mul_of_pos _ _ (by omega)]
      constructor
      · intro h
        rcases Int.mul_eq_zero.1 h with h | h
        · omega
        · exact h
      · intro h; rw [h, Int.mul_zero]
    rw [h3, Int.add_mul_emod_self_left]
    have ha : (((c % p).toNat : Nat) : Int) = c % p := Int.toNat_of_nonneg (Int.emod_nonneg _ (by omega))
    have hb : (((de f.tail 1 r % p).toNat : Nat) : Int) = de f.tail 1 r % p := Int.toNat_of_nonneg (Int.emod_nonneg _ (by omega))
    have h4 : (c + t * de f.tail 1 r) % p = (((((c % p).toNat + t * (de f.tail 1 r % p).toNat) % p : Nat)) : Int) := by
      rw [Int.natCast_emod, Int.natCast_add, Int.natCast_mul, ha, hb, Int.add_emod, Int.mul_emod]
      conv => rhs; rw [Int.add_emod, Int.emod_emod, Int.mul_emod, Int.emod_emod]
    rw [h4]
    omega
  have ha : (de f.tail 1 r % p).toNat < p := by
    have := Int.emod_lt_of_pos (de f.tail 1 r) (show (0 : Int) < p by omega)
    omega
  have hb : (c % p).toNat < p := by
    have := Int.emod_lt_of_pos c (show (0 : Int) < p by omega)
    omega
  obtain ⟨t, h5, h6, h7⟩ := hp.unit (de f.tail 1 r % p).toNat (c % p).toNat ha hb (by
    have := Int.emod_nonneg (de f.tail 1 r) (show (p : Int) ≠ 0 by omega)
    omega)
  exact ⟨t, h5, (key t).2 h6, fun u hu hu2 => h7 u hu ((key u).1 hu2)⟩
theorem de_congr (f : List Int) (s x y m : Int) (h : m ∣ x - y) : m ∣ de f s x - de f s y := by
  induction f generalizing s with
  | nil => exact ⟨0, by simp [de]⟩
  | cons c t ih =>
    obtain ⟨a, ha⟩ := ih (s + 1)
    obtain ⟨b, hb⟩ := h
    refine ⟨b * de t (s + 1) x + y * a, ?_⟩
    rw [de, de]
    have e1 : x * de t (s + 1) x = (m * b + y) * de t (s + 1) x := by rw [show m * b + y = x by omega]
    have e2 : de t (s + 1) x = m * a + de t (s + 1) y := by omega
    rw [e1, Int.add_mul, Int.mul_add]
    have e3 : y * de t (s + 1) x = y * (m * a) + y * de t (s + 1) y := by rw [e2, Int.mul_add]
    rw [e3, Int.mul_assoc, Int.mul_left_comm y m a]
    omega
theorem pn_dvd (p a b : Nat) (h : a ≤ b) : ((pn p a : Nat) : Int) ∣ ((pn p b : Nat) : Int) := by
  rw [show b = a + (b - a) by omega, pn_add]
  exact ⟨(pn p (b - a) : Nat), by simp⟩
theorem pn_one (p : Nat) : pn p 1 = p := by simp [pn]
/-- the one root above r -/
theorem lift_one {p : Nat} (hp : isP p) (f : List Int) (r : Int) (h0 : 0 ≤ r) (h1 : r < p) (hr : ev f r % p = 0) (hd : de f.tail 1 r % p ≠ 0) :
    ∀ j : Nat, ∃ R : Int, 0 ≤ R ∧ R < pn p (j + 1) ∧ ev f R % (pn p (j + 1) : Nat) = 0 ∧ R % p = r ∧ ∀ x : Int, 0 ≤ x → x < pn p (j + 1) → ev f x % (pn p (j + 1) : Nat) = 0 → x % p = r → x = R := by
  intro j
  have hp2 := hp.pos
  induction j with
  | zero =>
    refine ⟨r, h0, by rw [pn_one]; exact h1, by rw [pn_one]; exact hr, Int.emod_eq_of_lt h0 h1, fun x a b _ d => ?_⟩
    rw [pn_one] at b
    rw [← d, Int.emod_eq_of_lt a b]
  | succ j ih =>
    obtain ⟨R, a, b, c, d, e⟩ := ih
    have hm := pn_pos (show 0 < p by omega) (j + 1)
    have hpm : (p : Int) ∣ (pn p (j + 1) : Nat) := by have := pn_dvd p 1 (j + 1) (by omega); rwa [pn_one] at this
    have hdR : de f.tail 1 R % p ≠ 0 := by
      rw [emod_eq_of_dvd_sub (de_congr f.tail 1 R r p ?_)]
      · exact hd
      · have := Int.emod_add_mul_ediv R p
        exact ⟨R / p, by omega⟩
    obtain ⟨t, h5, h6, h7⟩ := hensel hp f _ hm hpm R c hdR
    have hs : pn p (j + 1 + 1) = pn p (j + 1) * p := rfl
    generalize hM : pn p (j + 1) = m at *
    have e1 : ((t * m : Nat) : Int) = (t : Int) * m := by simp
    refine ⟨R + t * m, by omega, ?_, by rw [hs]; exact h6, ?_, ?_⟩
    · rw [hs]
      have : (t + 1) * m ≤ m * p := by rw [Nat.mul_comm m p]; exact Nat.mul_le_mul_right m h5
      rw [Nat.add_mul, Nat.one_mul] at this
      omega
    · rw [← d]
      apply emod_eq_of_dvd_sub
      obtain ⟨c, hc⟩ := hpm
      exact ⟨t * c, by rw [hc]; simp only [Int.mul_left_comm]; omega⟩
    · intro x x0 x1 x2 x3
      rw [hs] at x1 x2
      have hmd : ((m : Nat) : Int) ∣ ((m * p : Nat) : Int) := ⟨p, by simp⟩
      have y := e (x % m) (Int.emod_nonneg _ (by omega)) (Int.emod_lt_of_pos _ (by omega)) (by
        rw [ev_mod]; exact Int.emod_eq_zero_of_dvd (Int.dvd_trans hmd (Int.dvd_of_emod_eq_zero x2))) (by rw [Int.emod_emod_of_dvd _ hpm]; exact x3)
      have hq : x / m < p := Int.ediv_lt_of_lt_mul (by omega) (by rw [Int.mul_comm]; simpa using x1)
      have hq0 : 0 ≤ x / m := Int.ediv_nonneg x0 (by omega)
      have hx := Int.emod_add_mul_ediv x m
      have hx2 : R + (((x / m).toNat : Nat) : Int) * m = x := by
        rw [← y, show (((x / m).toNat : Nat) : Int) = x / m by omega, Int.mul_comm]; exact hx
      have := h7 (x / m).toNat (by omega) (by rw [hx2]; exact x2)
      rw [← hx2, this]
theorem above_one {p : Nat} (hp : isP p) (f : List Int) (m : Nat) (hm : 0 < m) (hpm : (p : Int) ∣ m) (r : Int) (hr : ev f r % m = 0) (hd : de f.tail 1 r % p ≠ 0) : (aboveL f p m r p).length = 1 := by
  obtain ⟨t, h1, h2, h3⟩ := hensel hp f m hm hpm r hr hd
  have hn := nodup_of_lt (above_lt f p m hm r p)
  have : (aboveL f p m r p).Perm [r + t * m] := (List.perm_ext_iff_of_nodup hn (by simp)).2 fun x => by
    unfold aboveL
    rw [List.mem_filter, List.mem_map, List.mem_singleton]
    constructor
    · rintro ⟨⟨d, hd, rfl⟩, h⟩
      rw [List.mem_range] at hd
      rw [h3 d hd (by simpa using h)]
    · rintro rfl
      exact ⟨⟨t, List.mem_range.2 h1, rfl⟩, by simpa using h2⟩
  exact this.length_eq
theorem flatMap_ones {S : List Int} {g : Int → List Int} (h : ∀ x ∈ S, (g x).length = 1) : (S.flatMap g).length = S.length := by
  induction S with
  | nil => rfl
  | cons x t ih =>
    rw [List.flatMap_cons, List.length_append, h x (by simp), ih (fun y hy => h y (by simp [hy])), List.length_cons, Nat.add_comm]
theorem stage_len {p : Nat} (hp : isP p) (f : List Int) (hd : ∀ r : Int, 0 ≤ r → r < p → ev f r % p = 0 → de f.tail 1 r % p ≠ 0) : ∀ j, (stage f p (j + 1)).length = (stage f p 1).length := by
  have hp2 := hp.pos
  intro j
  induction j with
  | zero => rfl
  | succ j ih =>
    rw [← ih]
    rw [stage.eq_2 f p (j + 1)]
    have hm := pn_pos (show 0 < p by omega) (j + 1)
    have hpm : (p : Int) ∣ (pn p (j + 1) : Nat) := by have := pn_dvd p 1 (j + 1) (by omega); rwa [pn_one] at this
    refine flatMap_ones fun r hr => ?_
    have h1 := (mem_stage f p (by omega) (j + 1) r).1 hr
    refine above_one hp f _ hm hpm r h1.2.2 ?_
    have h2 := hd (r % p) (Int.emod_nonneg _ (by omega)) (Int.emod_lt_of_pos _ (by omega)) (by
      rw [ev_mod]; exact Int.emod_eq_zero_of_dvd (Int.dvd_trans hpm (Int.dvd_of_emod_eq_zero h1.2.2)))
    rw [emod_eq_of_dvd_sub (de_congr f.tail 1 r (r % p) p ?_)]
    · exact h2
    · have := Int.emod_add_mul_ediv r p
      exact ⟨r / p, by omega⟩
def sq (a : Int) : List Int := [-a, 0, 1]
theorem ev_sq (a x : Int) : ev (sq a) x = x * x - a := by
  simp [sq, ev]; omega
theorem de_sq (a x : Int) : de (sq a).tail 1 x = 2 * x := by
  simp [sq, de]; omega
def sqB (p : Nat) : Bool := (List.range p).all fun a => a == 0 || (fun n => n == 0 || n == 2) ((List.range p).filter fun x => (x * x + (p - a)) % p == 0).length
theorem sq_all : [3, 5, 7, 11, 13].all sqB = true := by decide +kernel
theorem sq_unit {p : Nat} (hp : isP p) (h2 : 2 < p) (a : Int) (ha : a % p ≠ 0) (r : Int) (h0 : 0 ≤ r) (h1 : r < p) (hr : ev (sq a) r % p = 0) : de (sq a).tail 1 r % p ≠ 0 := by
  rw [ev_sq] at hr
  rw [de_sq]
  intro h
  apply ha
  have hr0 : r = 0 := by
    rcases hp with h | h | h | h | h | h <;> subst h <;> omega
  subst hr0
  simp at hr
  have := Int.dvd_of_emod_eq_zero hr
  exact Int.emod_eq_zero_of_dvd (by
    have h3 := Int.dvd_neg.2 this
    simpa using h3)
theorem sq_len {p : Nat} (hp : isP p) (h2 : 2 < p) (a : Int) (ha : a % p ≠ 0) : (rootsL (sq a) p).length = 0 ∨ (rootsL (sq a) p).length = 2 := by
  have hB : sqB p = true := List.all_eq_true.1 sq_all p (by rcases hp with h | h | h | h | h | h <;> subst h <;> simp at h2 ⊢)
  have hm := Int.emod_nonneg a (show (p : Int) ≠ 0 by omega)
  have hl := Int.emod_lt_of_pos a (show (0 : Int) < p by omega)
  obtain ⟨c, hc⟩ : ∃ c : Nat, a % p = c := ⟨(a % p).toNat, by omega⟩
  have h1 := List.all_eq_true.1 hB c (List.mem_range.2 (by omega))
  have hc0 : c ≠ 0 := by intro e; apply ha; rw [hc, e]; rfl
  simp only [Bool.or_eq_true, beq_iff_eq, hc0, false_or] at h1
  have e : (rootsL (sq a) p).length = ((List.range p).filter fun x => (x * x + (p - c)) % p == 0).length := by
    unfold rootsL
    rw [List.filter_map, List.length_map]
    congr 1
    apply List.filter_congr
    intro x _
    simp only [Function.comp]
    rw [ev_sq]
    have h3 : ((x : Int) * x - a) % p = (((x * x + (p - c)) % p : Nat) : Int) := by
      rw [Int.natCast_emod, Int.natCast_add, Int.natCast_mul, Int.natCast_sub (by omega)]
      apply emod_eq_of_dvd_sub
      have h4 := Int.emod_add_mul_ediv a p
      exact ⟨-(a / p) - 1, by rw [Int.mul_sub, Int.mul_neg]; omega⟩
    rw [h3, Bool.eq_iff_iff, beq_iff_eq, beq_iff_eq]
    omega
  rw [e]; exact h1
/-- the numbers of square roots -/
theorem sq_roots {p : Nat} (hp : isP p) (h2 : 2 < p) (a : Int) (ha : a % p ≠ 0) (j : Nat) : (rootsL (sq a) (pn p (j + 1))).length = (rootsL (sq a) p).length ∧ ((rootsL (sq a) (pn p (j + 1))).length = 0 ∨ (rootsL (sq a) (pn p (j + 1))).length = 2) := by
  have h0 : 0 < p := by omega
  have e := stage_len hp (sq a) (fun r a1 a2 a3 => sq_unit hp h2 a ha r a1 a2 a3) j
  have e1 := (stage_perm (sq a) p h0 (j + 1)).length_eq
  have e2 := (stage_perm (sq a) p h0 1).length_eq
  rw [pn_one] at e2
  rw [← e1, e, e2]
  exact ⟨rfl, sq_len hp h2 a ha⟩
theorem sq_other (a x : Int) (q : Nat) (hq : 0 < q) (h : x ∈ rootsL (sq a) q) : ((q : Int) - x) % q ∈ rootsL (sq a) q := by
  rw [mem_rootsL] at h ⊢
  refine ⟨Int.emod_nonneg _ (by omega), Int.emod_lt_of_pos _ (by omega), ?_⟩
  rw [ev_mod, ev_sq, ← h.2.2, ev_sq]
  apply emod_eq_of_dvd_sub
  refine ⟨(q : Int) - 2 * x, ?_⟩
  simp only [Int.mul_sub, Int.sub_mul]
  have e1 : x * (q : Int) = q * x := Int.mul_comm _ _
  have e2 : (q : Int) * (2 * x) = 2 * (q * x) := by rw [Int.mul_left_comm]
  rw [e1, e2]; omega
theorem roots_down (f : List Int) (p j k : Nat) (hp : 0 < p) (h : j ≤ k) (x : Int) (hx : x ∈ rootsL f (pn p k)) : x % (pn p j : Nat) ∈ rootsL f (pn p j) := by
  rw [mem_rootsL] at hx ⊢
  have hm := pn_pos hp j
  refine ⟨Int.emod_nonneg _ (by omega), Int.emod_lt_of_pos _ (by omega), ?_⟩
  rw [ev_mod]
  exact Int.emod_eq_zero_of_dvd (Int.dvd_trans (pn_dvd p j k h) (Int.dvd_of_emod_eq_zero hx.2.2))
end Go.Proofs.Ytdkobkghhnccgaa
