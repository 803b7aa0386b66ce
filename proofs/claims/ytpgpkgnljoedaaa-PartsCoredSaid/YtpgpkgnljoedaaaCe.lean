/- Mathematics of PartsCored: hooks counted; no program. -/
import Derived.Test.YtpgpkgnljoedaaaCd
import Derived.Test.YtpgpkgnljoedaaaHk
namespace Go.Proofs.Ytpgpkgnljoedaaa
/-! ### hooks counted -/
def sumN (f : Nat → Nat) : Nat → Nat
  | 0 => 0
  | n + 1 => sumN f n + f n
theorem sumN_congr {f g : Nat → Nat} : ∀ n, (∀ k, k < n → f k = g k) → sumN f n = sumN g n
  | 0, _ => rfl
  | n + 1, h => by rw [sumN, sumN, sumN_congr n (fun k hk => h k (by omega)), h n (by omega)]
theorem sumN_add (f g : Nat → Nat) : ∀ n, sumN (fun k => f k + g k) n = sumN f n + sumN g n
  | 0 => rfl
  | n + 1 => by rw [sumN, sumN, sumN, sumN_add f g n]; omega
theorem sumN_shift (f : Nat → Nat) : ∀ n, sumN f (n + 1) = f 0 + sumN (fun k => f (k + 1)) n
  | 0 => by simp [sumN]
  | n + 1 => by rw [sumN, sumN_shift f n, sumN]; omega
theorem sumN_zero (f : Nat → Nat) (m : Nat) : ∀ n, m ≤ n → (∀ k, m ≤ k → k < n → f k = 0) → sumN f n = sumN f m := by
  intro n
  induction n with
  | zero => intro h _; obtain rfl : m = 0 := (by omega); rfl
  | succ n ih =>
    intro h h0
    by_cases e : m = n + 1
    · subst e; rfl
    · rw [sumN, ih (by omega) (fun k hk hk2 => h0 k hk (by omega)), h0 n (by omega) (by omega)]; rfl
theorem sum_range {α : Type} (g : α → Nat) (f : Nat → α) : ∀ n, (((List.range n).map f).map g).sum = sumN (fun k => g (f k)) n
  | 0 => rfl
  | n + 1 => by rw [List.range_succ]; simp [sumN, ← sum_range g f n]
/-- how many numbers of a table are as P says -/
def cntP (P : Int → Bool) (L : List (List Int)) : Nat := (L.map fun r => r.countP P).sum
theorem cnt_hooks (P : Int → Bool) (l : List Int) {N : Nat} (hN : l.length ≤ N) : cntP P (hooks l) = sumN (fun i => (hkRow l i (l.getD i 0).toNat).countP P) N := by
  unfold cntP hooks hkAll
  rw [sum_range (fun r => r.countP P) (fun i => hkRow l i (l.getD i 0).toNat) l.length]
  refine (sumN_zero _ l.length N hN (fun k hk _ => ?_)).symm
  rw [gd_out hk]; rfl
/-- row i: the hooks, and the distances to the lower beads, are 1, 2, .., up to the bead -/
theorem hook_gap (l : List Int) (N i j : Nat) : hook l i j = beadN N l i - gapN N l j := by unfold hook beadN gapN; omega
def dist (N : Nat) (l : List Int) (i : Nat) : List Int := (List.range (N - 1 - i)).map fun k => beadN N l i - beadN N l (i + 1 + k)
def upTo (b : Nat) : List Int := (List.range b).map fun t : Nat => (t : Int) + 1
theorem row_perm {l : List Int} (h : Part l) {N : Nat} (hN : l.length ≤ N) {i : Nat} (hi : i < N) : (hkRow l i (l.getD i 0).toNat ++ dist N l i).Perm (upTo (beadN N l i).toNat) := by
  have hb := beadN_nonneg h.pf hi
  have hl0 := h.pf.nonneg i
  have ml : ∀ x, x ∈ hkRow l i (l.getD i 0).toNat ↔ ∃ j : Nat, (j : Int) < l.getD i 0 ∧ x = beadN N l i - gapN N l j := fun x => by
    unfold hkRow
    rw [List.mem_map]
    constructor
    · rintro ⟨j, hj, rfl⟩
      exact ⟨j, by have := List.mem_range.1 hj; omega, hook_gap l N i j⟩
    · rintro ⟨j, hj, rfl⟩
      exact ⟨j, List.mem_range.2 (by omega), hook_gap l N i j⟩
  have md : ∀ x, x ∈ dist N l i ↔ ∃ k, i < k ∧ k < N ∧ x = beadN N l i - beadN N l k := fun x => by
    unfold dist
    rw [List.mem_map]
    constructor
    · rintro ⟨k, hk, rfl⟩
      exact ⟨i + 1 + k, by omega, by have := List.mem_range.1 hk; omega, rfl⟩
    · rintro ⟨k, hk, hk2, rfl⟩
      exact ⟨k - (i + 1), List.mem_range.2 (by omega), by rw [show i + 1 + (k - (i + 1)) = k by omega]⟩
  refine (List.perm_ext_iff_of_nodup ?_ ?_).2 (fun x => ?_)
  · refine List.nodup_append.2 ⟨?_, ?_, fun a ha b hb2 e => ?_⟩
    · unfold hkRow
      refine List.pairwise_iff_getElem.2 (fun a b ha hb2 hab => ?_)
      simp only [List.getElem_map, List.getElem_range]
      have := gap_lt (l := l) (N := N) hab
      rw [hook_gap l N i a, hook_gap l N i b]; omega
    · unfold dist
      refine List.pairwise_iff_getElem.2 (fun a b ha hb2 hab => ?_)
      simp only [List.getElem_map, List.getElem_range]
      have := beadN_lt h.pf N (show i + 1 + a < i + 1 + b by omega)
      omega
    · subst e
      obtain ⟨j, _, e1⟩ := (ml a).1 ha
      obtain ⟨k, _, _, e2⟩ := (md a).1 hb2
      exact gap_ne h hN k j (by omega)
  · unfold upTo
    refine List.pairwise_iff_getElem.2 (fun a b ha hb2 hab => ?_)
    simp only [List.getElem_map, List.getElem_range]; omega
  · have mu : x ∈ upTo (beadN N l i).toNat ↔ 1 ≤ x ∧ x ≤ beadN N l i := by
      unfold upTo
      rw [List.mem_map]
      constructor
      · rintro ⟨t, ht, rfl⟩
        have := List.mem_range.1 ht; omega
      · rintro ⟨h1, h2⟩
        exact ⟨(x - 1).toNat, List.mem_range.2 (by omega), by omega⟩
    rw [List.mem_append, ml, md, mu]
    constructor
    · rintro (⟨j, hj, rfl⟩ | ⟨k, h1, h2, rfl⟩)
      · have h1 := (gap_bead h hN i j).2 hj
        have h2 := cn_bd l (j : Int) l.length
        have h3 : 0 ≤ gapN N l j := by unfold gapN; omega
        omega
      · have := beadN_lt h.pf N h1
        have := beadN_nonneg h.pf h2
        omega
    · rintro ⟨h1, h2⟩
      by_cases hs : inS N l (beadN N l i - x)
      · obtain ⟨k, hk, e⟩ := hs
        refine .inr ⟨k, ?_, hk, by omega⟩
        rcases Nat.lt_trichotomy i k with g | g | g
        · exact g
        · subst g; omega
        · have := beadN_lt h.pf N g; omega
      · obtain ⟨j, hj⟩ := gap_ex h hN (by omega) hs
        exact .inl ⟨j, (gap_bead h hN i j).1 (by omega), by omega⟩
theorem row_count {l : List Int} (h : Part l) {N : Nat} (hN : l.length ≤ N) {i : Nat} (hi : i < N) (P : Int → Bool) : (hkRow l i (l.getD i 0).toNat).countP P + (dist N l i).countP P = (upTo (beadN N l i).toNat).countP P := by
  rw [← List.countP_append]; exact (row_perm h hN hi).countP_eq P
def dvB (p : Nat) (x : Int) : Bool := decide (x % (p : Int) = 0)
theorem dvB_iff {p : Nat} {x : Int} : dvB p x = true ↔ (p : Int) ∣ x := by unfold dvB; rw [decide_eq_true_eq]; exact Int.dvd_iff_emod_eq_zero.symm
theorem dvB_congr {p : Nat} {x y : Int} (h : (p : Int) ∣ x ↔ (p : Int) ∣ y) : dvB p x = dvB p y := by
  rw [Bool.eq_iff_iff, dvB_iff, dvB_iff]; exact h
theorem upTo_div (p : Nat) (hp : 1 ≤ p) : ∀ b, (upTo b).countP (dvB p) = b / p
  | 0 => by simp [upTo]
  | b + 1 => by
    have ih := upTo_div p hp b
    unfold upTo at ih ⊢
    rw [List.range_succ, List.map_append, List.countP_append, ih, Nat.succ_div]
    by_cases hd : p ∣ b + 1
    · rw [if_pos hd]
      have : dvB p ((b : Int) + 1) = true := dvB_iff.2 (by have := Int.natCast_dvd_natCast.2 hd; simpa using this)
      simp [this]
    · rw [if_neg hd]
      have : dvB p ((b : Int) + 1) = false := by
        rw [Bool.eq_false_iff]
        intro e
        exact hd (Int.natCast_dvd_natCast.1 (by have := dvB_iff.1 e; simpa using this))
      simp [this]
/-- pairs on one runner -/
def pc (p : Nat) : List Int → Nat
  | [] => 0
  | x :: xs => xs.countP (fun y => dvB p (x - y)) + pc p xs
theorem pc_perm (p : Nat) {L M : List Int} (h : L.Perm M) : pc p L = pc p M := by
  induction h with
  | nil => rfl
  | cons x h ih => rw [pc, pc, ih, h.countP_eq]
  | swap x y l =>
    rw [pc, pc, pc, pc, List.countP_cons, List.countP_cons]
    have : dvB p (y - x) = dvB p (x - y) := dvB_congr ⟨fun h => by have := Int.dvd_neg.2 h; rwa [Int.neg_sub] at this, fun h => by have := Int.dvd_neg.2 h; rwa [Int.neg_sub] at this⟩
    rw [this]; omega
  | trans _ _ a b => exact a.trans b
theorem pc_sum (p : Nat) : ∀ L : List Int, pc p L = sumN (fun i => (L.drop (i + 1)).countP (fun y => dvB p (L.getD i 0 - y))) L.length
  | [] => rfl
  | x :: L => by
    rw [pc, List.length_cons, sumN_shift, pc_sum p L]
    rfl
theorem dist_drop (N : Nat) (l : List Int) (i : Nat) (hi : i < N) (P : Int → Bool) : (dist N l i).countP P = ((bsN N l).drop (i + 1)).countP (fun y => P ((bsN N l).getD i 0 - y)) := by
  have e : (bsN N l).drop (i + 1) = (List.range (N - 1 - i)).map fun k => beadN N l (i + 1 + k) := by
    apply List.ext_getElem
    · simp [bsN]; omega
    · intro k h1 h2
      simp [bsN]
  rw [e, bsN_getD N l i hi]
  unfold dist
  rw [List.countP_map, List.countP_map]
  rfl
/-- the hooks that p divides -/
theorem div_count {l : List Int} (h : Part l) {N : Nat} (hN : l.length ≤ N) {p : Nat} (hp : 1 ≤ p) : cntP (dvB p) (hooks l) + pc p (bsN N l) = ((bsN N l).map fun b => b.toNat / p).sum := by
  rw [cnt_hooks (dvB p) l hN, pc_sum, bsN_length, ← sumN_add]
  unfold bsN
  rw [sum_range (fun b : Int => b.toNat / p) (beadN N l) N]
  refine sumN_congr N (fun i hi => ?_)
  have h1 := row_count h hN hi (dvB p)
  rw [dist_drop N l i hi, upTo_div p hp] at h1
  exact h1
theorem down_count {l m : List Int} (h : Part l) (hm : Part m) {N : Nat} (hN : l.length ≤ N) (hmN : m.length ≤ N) {p : Nat} (hp : 1 ≤ p) {x : Int} (hd : Down N l m p x) : cntP (dvB p) (hooks m) + 1 = cntP (dvB p) (hooks l) := by
  obtain ⟨a1, a2, a3, a4⟩ := hd
  have e1 := div_count h hN hp
  have e2 := div_count hm hmN hp
  have p1 : (bsN N l).Perm (x :: (bsN N l).erase x) := List.perm_cons_erase (bsN_mem.2 a1)
  have hnd := bsN_nodup h.pf N
  have p2 : (bsN N m).Perm ((x - p) :: (bsN N l).erase x) := by
    refine (List.perm_ext_iff_of_nodup (bsN_nodup hm.pf N) (List.nodup_cons.2 ⟨?_, hnd.erase x⟩)).2 (fun z => ?_)
    · intro e
      exact a3 (bsN_mem.1 (List.mem_of_mem_erase e))
    · rw [bsN_mem, a4, List.mem_cons, hnd.mem_erase_iff, bsN_mem]
      constructor
      · rintro (⟨b1, b2⟩ | b1)
        · exact .inr ⟨b2, b1⟩
        · exact .inl b1
      · rintro (b1 | ⟨b1, b2⟩)
        · exact .inr b1
        · exact .inl ⟨b2, b1⟩
  rw [pc_perm p p1, (p1.map _).sum_nat] at e1
  rw [pc_perm p p2, (p2.map _).sum_nat] at e2
  rw [List.map_cons, List.sum_cons, pc] at e1 e2
  have c1 : ((bsN N l).erase x).countP (fun y => dvB p (x - p - y)) = ((bsN N l).erase x).countP (fun y => dvB p (x - y)) := by
    congr 1
    funext y
    refine dvB_congr ⟨fun hh => ?_, fun hh => ?_⟩
    · have := Int.dvd_add hh (Int.dvd_refl (p : Int)); rwa [show x - p - y + p = x - y by omega] at this
    · have := Int.dvd_sub hh (Int.dvd_refl (p : Int)); rwa [show x - y - p = x - p - y by omega] at this
  have c2 : x.toNat / p = (x - p).toNat / p + 1 := by
    rw [Nat.div_eq_sub_div (by omega) (show p ≤ x.toNat by omega), show (x - p).toNat = x.toNat - p by omega]
  rw [c1] at e2
  omega
theorem walk_free {l : List Int} {N : Nat} {p : Int} (hp : 1 ≤ p) : ∀ (t : Nat) (x : Int), inS N l x → 0 ≤ x - (t + 1) * p → ¬ inS N l (x - (t + 1) * p) → ∃ y, inS N l y ∧ p ≤ y ∧ ¬ inS N l (y - p)
  | 0, x, h1, h2, h3 => ⟨x, h1, by simp at h2; omega, by simpa using h3⟩
  | t + 1, x, h1, h2, h3 => by
    have e : x - ((t + 1 : Nat) + 1 : Int) * p = x - p - (t + 1) * p := by
      rw [Int.add_mul, Int.one_mul]; push_cast; omega
    rw [e] at h2 h3
    have hpos : 0 ≤ ((t : Int) + 1) * p := Int.mul_nonneg (by omega) (by omega)
    by_cases hs : inS N l (x - p)
    · exact walk_free hp t (x - p) hs h2 h3
    · exact ⟨x, h1, by omega, hs⟩
/-- the core has no hook that p divides -/
theorem core_hooks {l : List Int} (h : Part l) {p : Nat} (hp : 1 ≤ p) (hr : RmL l p = []) : ∀ i j : Nat, i < l.length → (j : Int) < l.getD i 0 → hook l i j % (p : Int) ≠ 0 := by
  intro i j hi hj e
  have hpi : (1 : Int) ≤ p := by omega
  have hg := hook_gap l l.length i j
  have h1 := (gap_bead h (Nat.le_refl _) i j).2 hj
  obtain ⟨t, ht⟩ := Int.dvd_iff_emod_eq_zero.2 e
  have ht1 : 1 ≤ t := by
    rcases Int.lt_or_le 0 t with g | g
    · omega
    · exfalso
      have : (p : Int) * t ≤ 0 := Int.mul_nonpos_of_nonneg_of_nonpos (by omega) g
      omega
  obtain ⟨s, rfl⟩ : ∃ s : Nat, t = s + 1 := ⟨(t - 1).toNat, by omega⟩
  have h2 := cn_bd l (j : Int) l.length
  have e3 : beadN l.length l i - ((s : Int) + 1) * p = gapN l.length l j := by rw [Int.mul_comm]; omega
  obtain ⟨y, y1, y2, y3⟩ := walk_free hpi s (beadN l.length l i) ⟨i, hi, rfl⟩ (by rw [e3]; unfold gapN; omega) (by rw [e3]; rintro ⟨k, _, e⟩; exact gap_ne h (Nat.le_refl _) k j e.symm)
  obtain ⟨m, hm, _⟩ := down_ex h hpi (Nat.le_refl _) y1 y2 y3
  rw [hr] at hm; cases hm
theorem core_zero {l : List Int} (h : Part l) {p : Nat} (hp : 1 ≤ p) (hr : RmL l p = []) : cntP (dvB p) (hooks l) = 0 := by
  rw [cnt_hooks _ l (Nat.le_refl _)]
  have : ∀ i, i < l.length → (hkRow l i (l.getD i 0).toNat).countP (dvB p) = 0 := fun i hi => by
    rw [List.countP_eq_zero]
    intro x hx
    unfold hkRow at hx
    obtain ⟨j, hj, rfl⟩ := List.mem_map.1 hx
    have := core_hooks h hp hr i j hi (by have := List.mem_range.1 hj; omega)
    unfold dvB
    simpa using this
  rw [sumN_congr (g := fun _ => 0) _ this]
  have : ∀ n, sumN (fun _ => 0) n = 0 := fun n => by induction n with
    | zero => rfl
    | succ n ih => rw [sumN, ih]
  exact this _
/-- as many rim hooks come away as p divides hooks -/
theorem core_count {p : Nat} (hp : 1 ≤ p) {l c : List Int} (hc : CoreR p l c) (h : Part l) : l.sum - c.sum = (cntP (dvB p) (hooks l) : Nat) * (p : Int) := by
  induction hc with
  | done hr => rw [core_zero h hp hr]; omega
  | step hr _ ih =>
    have hpi : (1 : Int) ≤ p := by omega
    obtain ⟨pm, lm, x, hd⟩ := RmL_down h hpi (Nat.le_refl _) (by rw [hr]; exact List.mem_cons_self)
    have hs := (RmL_part h hpi (by rw [hr]; exact List.mem_cons_self)).2
    have h1 := down_count h pm (Nat.le_refl _) lm hp hd
    have h2 := ih pm
    rw [← h1]
    push_cast
    rw [Int.add_mul, Int.one_mul]
    omega
/-- as many rim hooks as hooks of that length -/
theorem rims_count {l : List Int} (h : Part l) {p : Nat} (hp : 1 ≤ p) : (RmL l p).length = cntP (fun x => decide (x = (p : Int))) (hooks l) := by
  rw [← (OL_perm h (show (1 : Int) ≤ p by omega)).length_eq, cnt_hooks _ l (Nat.le_refl _)]
  unfold OL
  rw [List.length_map]
  have key : ∀ i, i < l.length → (hkRow l i (l.getD i 0).toNat).countP (fun x => decide (x = (p : Int))) = if freeB l p i then 1 else 0 := fun i hi => by
    have hb : beadN l.length l i = bead l i := by unfold beadN bead; rfl
    have h0 := beadN_nonneg h.pf hi
    have h1 := row_count h (Nat.le_refl _) hi (fun x => decide (x = (p : Int)))
    have nd : (hkRow l i (l.getD i 0).toNat ++ dist l.length l i).Nodup := by
      refine (row_perm h (Nat.le_refl _) hi).nodup_iff.2 ?_
      unfold upTo
      refine List.pairwise_iff_getElem.2 (fun a b ha hb2 hab => ?_)
      simp only [List.getElem_map, List.getElem_range]; omega
    have hu : (upTo (beadN l.length l i).toNat).countP (fun x => decide (x = (p : Int))) = if (p : Int) ≤ beadN l.length l i then 1 else 0 := by
      have hn : (upTo (beadN l.length l i).toNat).Nodup := (row_perm h (Nat.le_refl _) hi).nodup_iff.1 nd
      have e : (upTo (beadN l.length l i).toNat).countP (fun x => decide (x = (p : Int))) = (upTo (beadN l.length l i).toNat).count (p : Int) := by
        rw [List.count]; congr 1
      rw [e]
      by_cases g : (p : Int) ≤ beadN l.length l i
      · rw [if_pos g, hn.count, if_pos]
        unfold upTo
        exact List.mem_map.2 ⟨p - 1, List.mem_range.2 (by omega), by omega⟩
      · rw [if_neg g]
        refine List.count_eq_zero.2 (fun hm => ?_)
        unfold upTo at hm
        obtain ⟨t, ht, e⟩ := List.mem_map.1 hm
        have := List.mem_range.1 ht; omega
    have hdc : (dist l.length l i).countP (fun x => decide (x = (p : Int))) = (dist l.length l i).count (p : Int) := by
      rw [List.count]; congr 1
    have hdn := (List.nodup_append.1 nd).2.1
    have hdm : (p : Int) ∈ dist l.length l i ↔ inS l.length l (beadN l.length l i - p) := by
      unfold dist
      rw [List.mem_map]
      constructor
      · rintro ⟨k, hk, e⟩
        exact ⟨i + 1 + k, by have := List.mem_range.1 hk; omega, by omega⟩
      · rintro ⟨k, hk, e⟩
        have : i < k := by
          rcases Nat.lt_trichotomy i k with g | g | g
          · exact g
          · subst g; omega
          · have := beadN_lt h.pf l.length g; omega
        exact ⟨k - (i + 1), List.mem_range.2 (by omega), by rw [show i + 1 + (k - (i + 1)) = k by omega]; omega⟩
    rw [hu, hdc] at h1
    have hfi := freeB_iff (p := (p : Int)) hi
    by_cases g : freeB l p i = true
    · obtain ⟨_, f2, f3⟩ := hfi.1 g
      rw [if_pos g]
      have : ¬ (p : Int) ∈ dist l.length l i := fun e => by
        obtain ⟨k, hk, e2⟩ := hdm.1 e
        have e3 : beadN l.length l k = bead l k := by unfold beadN bead; rfl
        rw [hb, e3] at e2
        exact f3 k hk e2
      rw [List.count_eq_zero.2 this, if_pos (by rw [hb]; exact f2)] at h1
      omega
    · rw [if_neg g]
      by_cases g2 : (p : Int) ≤ beadN l.length l i
      · have : (p : Int) ∈ dist l.length l i := hdm.2 (by
          rcases Classical.em (inS l.length l (beadN l.length l i - p)) with e | e
          · exact e
          · exfalso
            exact g (hfi.2 ⟨hi, by rw [← hb]; exact g2, fun k hk e2 => e ⟨k, hk, by rw [hb]; exact e2⟩⟩))
        rw [hdn.count, if_pos this, if_pos g2] at h1
        omega
      · rw [if_neg g2] at h1; omega
  have : ∀ n, ((List.range n).filter (freeB l p)).length = sumN (fun i => if freeB l p i then 1 else 0) n := fun n => by
    induction n with
    | zero => rfl
    | succ n ih =>
      rw [List.range_succ, List.filter_append, List.length_append, ih, sumN]
      congr 1
      cases hf : freeB l p n <;> simp [hf]
  rw [this]
  exact (sumN_congr _ key).symm
end Go.Proofs.Ytpgpkgnljoedaaa
