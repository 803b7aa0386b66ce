/- Mathematics of PartsCored: as many beads as one likes, the diamond, conjugates; no program. -/
import Derived.Test.YtpgpkgnljoedaaaCm
import Derived.Test.YtpgpkgnljoedaaaCj
namespace Go.Proofs.Ytpgpkgnljoedaaa
/-! ### beads, as many as one likes -/
def beadN (N : Nat) (l : List Int) (k : Nat) : Int := l.getD k 0 + ((N : Int) - 1 - k)
def inS (N : Nat) (l : List Int) (x : Int) : Prop := ∃ k, k < N ∧ beadN N l k = x
theorem beadN_lt {l : List Int} (h : Pf l) (N : Nat) {i j : Nat} (hij : i < j) : beadN N l j < beadN N l i := by
  have := h.fall' (Nat.le_of_lt hij)
  unfold beadN; omega
theorem beadN_inj {l : List Int} (h : Pf l) (N : Nat) {i j : Nat} (e : beadN N l i = beadN N l j) : i = j := by
  rcases Nat.lt_trichotomy i j with g | g | g
  · have := beadN_lt h N g; omega
  · exact g
  · have := beadN_lt h N g; omega
theorem beadN_nonneg {l : List Int} (h : Pf l) {N k : Nat} (hk : k < N) : 0 ≤ beadN N l k := by
  have := h.nonneg k
  unfold beadN; omega
theorem inS_nonneg {l : List Int} (h : Pf l) {N : Nat} {x : Int} (hx : inS N l x) : 0 ≤ x := by
  obtain ⟨k, hk, rfl⟩ := hx
  exact beadN_nonneg h hk
def bsN (N : Nat) (l : List Int) : List Int := (List.range N).map (beadN N l)
theorem bsN_mem {N : Nat} {l : List Int} {x : Int} : x ∈ bsN N l ↔ inS N l x := by
  unfold bsN inS
  rw [List.mem_map]
  exact ⟨fun ⟨k, hk, e⟩ => ⟨k, List.mem_range.1 hk, e⟩, fun ⟨k, hk, e⟩ => ⟨k, List.mem_range.2 hk, e⟩⟩
theorem bsN_length (N : Nat) (l : List Int) : (bsN N l).length = N := by simp [bsN]
theorem bsN_getD (N : Nat) (l : List Int) (k : Nat) (h : k < N) : (bsN N l).getD k 0 = beadN N l k := getD_some (by simp [bsN, h])
theorem bsN_fall {l : List Int} (h : Pf l) (N : Nat) : (bsN N l).Pairwise (fun x y => y < x) := by
  refine List.pairwise_iff_getElem.2 (fun i j hi hj hij => ?_)
  rw [bsN_length] at hi hj
  simp only [bsN, List.getElem_map, List.getElem_range]
  exact beadN_lt h N hij
theorem bsN_nodup {l : List Int} (h : Pf l) (N : Nat) : (bsN N l).Nodup := (bsN_fall h N).imp (fun {a b} (hab : b < a) (e : a = b) => by omega)
/-- the beads tell the partition -/
theorem inS_ext {l m : List Int} (h : Pf l) (g : Pf m) {N : Nat} (hl : l.length ≤ N) (hm : m.length ≤ N) (e : ∀ z, inS N l z ↔ inS N m z) : l = m := by
  have hp : (bsN N l).Perm (bsN N m) := (List.perm_ext_iff_of_nodup (bsN_nodup h N) (bsN_nodup g N)).2 (fun z => by rw [bsN_mem, bsN_mem]; exact e z)
  have he := fal_unique ((bsN_fall h N).imp (fun {a b} (hab : b < a) => by omega)) ((bsN_fall g N).imp (fun {a b} (hab : b < a) => by omega)) hp
  refine pos_ext h.1 g.1 (fun k => ?_)
  by_cases hk : k < N
  · have h1 := bsN_getD N l k hk
    have h2 := bsN_getD N m k hk
    rw [he, h2] at h1
    unfold beadN at h1; omega
  · rw [gd_out (by omega), gd_out (by omega)]
/-- bead x goes p down -/
def Down (N : Nat) (l m : List Int) (p x : Int) : Prop := inS N l x ∧ p ≤ x ∧ ¬ inS N l (x - p) ∧ ∀ z, inS N m z ↔ (inS N l z ∧ z ≠ x) ∨ z = x - p
/-- in order: what the beads of m are, bead by bead -/
theorem shape_beads {l m : List Int} {i q : Nat} {p : Int} (hm : Pf m) (hs : Shape l m i q) (hsum : m.sum = l.sum - p) (N : Nat) :
    (∀ k, k < i → beadN N m k = beadN N l k) ∧ (∀ k, i ≤ k → k < q → beadN N m k = beadN N l (k + 1)) ∧ beadN N m q = beadN N l i - p ∧ (∀ k, q < k → beadN N m k = beadN N l k) := by
  have h5 := (hs.sum hm).2
  obtain ⟨h1, h2, h3, h4⟩ := hs
  refine ⟨fun k hk => ?_, fun k hk hk2 => ?_, ?_, fun k hk => ?_⟩
  · have := h4 k; unfold shp at this; rw [if_pos hk] at this; unfold beadN; rw [this]
  · have := h4 k; unfold shp at this; rw [if_neg (by omega), if_pos hk2] at this; unfold beadN; rw [this]; dsimp only; omega
  · unfold beadN; omega
  · have := h4 k; unfold shp at this; rw [if_neg (by omega), if_neg (by omega), if_neg (by omega)] at this; unfold beadN; rw [this]
theorem shape_down {l m : List Int} (h : Pf l) (hm : Pf m) {i q : Nat} {p : Int} (hp : 1 ≤ p) (hs : Shape l m i q) (hsum : m.sum = l.sum - p) {N : Nat} (hN : l.length ≤ N) : m.length ≤ N ∧ Down N l m p (beadN N l i) := by
  obtain ⟨b1, b2, b3, b4⟩ := shape_beads hm hs hsum N
  have hml := (hs.sum hm).1
  obtain ⟨h1, h2, h3, h4⟩ := hs
  have lt := fun {a b : Nat} (hab : a < b) => beadN_lt h N hab
  have gt := fun {a b : Nat} (hab : a < b) => beadN_lt hm N hab
  have hq0 : beadN N m q < beadN N l q := by unfold beadN; omega
  have hq1 : beadN N l (q + 1) < beadN N m q := by rw [← b4 (q + 1) (by omega)]; exact gt (Nat.lt_succ_self q)
  refine ⟨by omega, ⟨i, by omega, rfl⟩, ?_, ?_, fun z => ⟨?_, ?_⟩⟩
  · have := beadN_nonneg hm (show q < N by omega); omega
  · rintro ⟨k, hk, e⟩
    rw [← b3] at e
    rcases Nat.lt_trichotomy k q with g | g | g
    · have := lt g; omega
    · subst g; omega
    · by_cases e2 : k = q + 1
      · subst e2; omega
      · have := lt (show q + 1 < k by omega); omega
  · rintro ⟨k, hk, rfl⟩
    by_cases a1 : k < i
    · rw [b1 k a1]; exact .inl ⟨⟨k, hk, rfl⟩, by have := lt a1; omega⟩
    · by_cases a2 : k < q
      · rw [b2 k (by omega) a2]; exact .inl ⟨⟨k + 1, by omega, rfl⟩, by have := lt (show i < k + 1 by omega); omega⟩
      · by_cases a3 : k = q
        · subst a3; exact .inr b3
        · rw [b4 k (by omega)]; exact .inl ⟨⟨k, hk, rfl⟩, by have := lt (show i < k by omega); omega⟩
  · rintro (⟨⟨k, hk, rfl⟩, hne⟩ | rfl)
    · by_cases a1 : k < i
      · exact ⟨k, hk, b1 k a1⟩
      · by_cases a2 : k = i
        · subst a2; exact absurd rfl hne
        · by_cases a3 : k ≤ q
          · exact ⟨k - 1, by omega, by rw [b2 (k - 1) (by omega) (by omega), show k - 1 + 1 = k by omega]⟩
          · exact ⟨k, hk, b4 k (by omega)⟩
    · exact ⟨q, by omega, b3⟩
theorem Part.pf {l : List Int} (h : Part l) : Pf l := ⟨h.small.1, h.fal⟩
/-- what is left without a rim hook: a bead has gone down -/
theorem RmL_down {l m : List Int} (h : Part l) {p : Int} (hp : 1 ≤ p) {N : Nat} (hN : l.length ≤ N) (hm : m ∈ RmL l p) : Part m ∧ m.length ≤ N ∧ ∃ x, Down N l m p x := by
  have hpm := RmL_part h hp hm
  have hs : ∃ i q, Shape l m i q := by
    unfold RmL at hm
    by_cases hs : l.sum < p
    · rw [if_pos hs] at hm; cases hm
    · rw [if_neg hs] at hm; exact rimB_iff.1 (List.mem_filter.1 hm).2
  obtain ⟨i, q, hs⟩ := hs
  obtain ⟨h1, h2⟩ := shape_down h.pf hpm.1.pf hp hs hpm.2 hN
  exact ⟨hpm.1, h1, _, h2⟩
theorem RmL_mem {l m : List Int} (h : Part l) {p : Int} (hp : 1 ≤ p) : m ∈ RmL l p ↔ ∃ i, Free l i p ∧ m = moved l i p := by
  rw [← (OL_perm h hp).mem_iff]
  unfold OL
  rw [List.mem_map]
  constructor
  · rintro ⟨i, hi, rfl⟩
    have := List.mem_filter.1 hi
    exact ⟨i, (freeB_iff (List.mem_range.1 this.1)).1 this.2, rfl⟩
  · rintro ⟨i, hi, rfl⟩
    exact ⟨i, List.mem_filter.2 ⟨List.mem_range.2 hi.1, (freeB_iff hi.1).2 hi⟩, rfl⟩
/-- a bead that may go down does so in one of them -/
theorem down_ex {l : List Int} (h : Part l) {p : Int} (hp : 1 ≤ p) {N : Nat} (hN : l.length ≤ N) {x : Int} (hx : inS N l x) (hpx : p ≤ x) (hn : ¬ inS N l (x - p)) : ∃ m, m ∈ RmL l p ∧ Down N l m p x := by
  obtain ⟨i, hi, rfl⟩ := hx
  have low : ∀ y : Int, 0 ≤ y → y < (N : Int) - l.length → inS N l y := fun y h0 h1 => by
    refine ⟨N - 1 - y.toNat, by omega, ?_⟩
    unfold beadN
    rw [gd_out (by omega)]; omega
  have hil : i < l.length := by
    rcases Nat.lt_or_ge i l.length with g | g
    · exact g
    · exfalso
      refine hn (low _ (by omega) ?_)
      unfold beadN
      rw [gd_out g]; omega
  have hb : beadN N l i = bead l i + ((N : Int) - l.length) := by unfold beadN bead; omega
  have hf : Free l i p := by
    refine ⟨hil, ?_, fun k hk e => hn ⟨k, by omega, ?_⟩⟩
    · rcases Int.lt_or_le (bead l i) p with g | g
      · exfalso
        exact hn (low _ (by omega) (by omega))
      · exact g
    · rw [hb]
      have : beadN N l k = bead l k + ((N : Int) - l.length) := by unfold beadN bead; omega
      rw [this, e]; omega
  obtain ⟨g1, g2, q, g3⟩ := moved_shape h.pf hp hf
  exact ⟨moved l i p, (RmL_mem h hp).2 ⟨i, hf, rfl⟩, (shape_down h.pf g1 hp g3 g2 hN).2⟩
/-- two ways down meet -/
theorem diamond {l m1 m2 : List Int} (h : Part l) {p : Int} (hp : 1 ≤ p) (h1 : m1 ∈ RmL l p) (h2 : m2 ∈ RmL l p) (hne : m1 ≠ m2) : ∃ d, d ∈ RmL m1 p ∧ d ∈ RmL m2 p := by
  obtain ⟨p1, l1, x1, a1, a2, a3, a4⟩ := RmL_down h hp (Nat.le_refl _) h1
  obtain ⟨p2, l2, x2, b1, b2, b3, b4⟩ := RmL_down h hp (Nat.le_refl _) h2
  have hx : x1 ≠ x2 := fun e => by
    subst e
    exact hne (inS_ext p1.pf p2.pf l1 l2 (fun z => by rw [a4, b4]))
  have k1 : x1 - p ≠ x2 := fun e => by rw [e] at a3; exact a3 b1
  have k2 : x2 - p ≠ x1 := fun e => by rw [e] at b3; exact b3 a1
  obtain ⟨d, hd, _, _, _, d4⟩ := down_ex p1 hp l1 (x := x2) ((a4 x2).2 (.inl ⟨b1, fun e => hx e.symm⟩)) b2 (fun hh => by
    rcases (a4 _).1 hh with hh | hh
    · exact b3 hh.1
    · omega)
  obtain ⟨d', hd', _, _, _, e4⟩ := down_ex p2 hp l2 (x := x1) ((b4 x1).2 (.inl ⟨a1, hx⟩)) a2 (fun hh => by
    rcases (b4 _).1 hh with hh | hh
    · exact a3 hh.1
    · omega)
  have hdp := RmL_down p1 hp l1 hd
  have hdp' := RmL_down p2 hp l2 hd'
  have hdd : d = d' := by
    refine inS_ext hdp.1.pf hdp'.1.pf hdp.2.1 hdp'.2.1 (fun z => ?_)
    rw [d4, e4, a4, b4]
    constructor
    · rintro (⟨⟨hz, hz1⟩ | rfl, hz2⟩ | rfl)
      · exact .inl ⟨.inl ⟨hz, hz2⟩, hz1⟩
      · exact .inr rfl
      · exact .inl ⟨.inr rfl, k2⟩
    · rintro (⟨⟨hz, hz1⟩ | rfl, hz2⟩ | rfl)
      · exact .inl ⟨.inl ⟨hz, hz2⟩, hz1⟩
      · exact .inr rfl
      · exact .inl ⟨.inr rfl, k1⟩
  exact ⟨d, hd, by rw [hdd]; exact hd'⟩
theorem core_ex {p : Int} (hp : 1 ≤ p) : ∀ (n : Nat) (l : List Int), Part l → l.sum ≤ n → ∃ c, CoreR p l c := by
  intro n
  induction n with
  | zero =>
    intro l h hs
    cases hr : RmL l p with
    | nil => exact ⟨l, .done hr⟩
    | cons m r =>
      have := RmL_part h hp (show m ∈ RmL l p by rw [hr]; exact List.mem_cons_self)
      have h0 := this.1.sum0
      omega
  | succ n ih =>
    intro l h hs
    cases hr : RmL l p with
    | nil => exact ⟨l, .done hr⟩
    | cons m r =>
      have := RmL_part h hp (show m ∈ RmL l p by rw [hr]; exact List.mem_cons_self)
      obtain ⟨c, hc⟩ := ih m this.1 (by omega)
      exact ⟨c, .step hr hc⟩
/-- the core does not depend on the way -/
theorem core_conf {p : Int} (hp : 1 ≤ p) : ∀ (n : Nat) (l m c : List Int), Part l → l.sum ≤ n → CoreR p l c → m ∈ RmL l p → CoreR p m c := by
  intro n
  induction n with
  | zero =>
    intro l m c h hs _ hm
    have := RmL_part h hp hm
    have h0 := this.1.sum0
    omega
  | succ n ih =>
    intro l m c h hs hc hm
    cases hc with
    | done hr => rw [hr] at hm; cases hm
    | step hr hc' =>
      rename_i m0 r
      have hm0 : m0 ∈ RmL l p := by rw [hr]; exact List.mem_cons_self
      by_cases e : m = m0
      · subst e; exact hc'
      · obtain ⟨d, d1, d2⟩ := diamond h hp hm hm0 e
        have q1 := RmL_part h hp hm
        have q2 := RmL_part h hp hm0
        have e1 := ih m0 d c q2.1 (by omega) hc' d2
        obtain ⟨c1, hc1⟩ := core_ex hp 100 m q1.1 (by have := q1.1.2; omega)
        have e2 := ih m d c1 q1.1 (by omega) hc1 d1
        rw [e1.unique e2]; exact hc1
theorem CoreR.facts {p : Int} (hp : 1 ≤ p) {l c : List Int} (hc : CoreR p l c) (h : Part l) : Part c ∧ RmL c p = [] ∧ c.length ≤ l.length ∧ c.sum ≤ l.sum := by
  induction hc with
  | done hr => exact ⟨h, hr, Nat.le_refl _, Int.le_refl _⟩
  | step hr _ ih =>
    have hm := RmL_down h hp (Nat.le_refl _) (by rw [hr]; exact List.mem_cons_self)
    have hm2 := RmL_part h hp (by rw [hr]; exact List.mem_cons_self)
    obtain ⟨i1, i2, i3, i4⟩ := ih hm.1
    exact ⟨i1, i2, by have := hm.2.1; omega, by omega⟩
/-! ### gaps; the conjugate's beads -/
def gapN (N : Nat) (l : List Int) (j : Nat) : Int := (N : Int) + j - (cn l j l.length : Nat)
theorem cn_bd (l : List Int) (c : Int) (k : Nat) : cn l c k ≤ k := cn_le l c k
theorem cn_iff' {l : List Int} (h : Part l) (c : Int) (hc : 0 ≤ c) (i : Nat) : c < l.getD i 0 ↔ i < cn l c l.length := by
  by_cases hi : i < l.length
  · exact cn_iff h c i hi
  · rw [gd_out (by omega)]
    have := cn_bd l c l.length
    omega
theorem gap_lt {l : List Int} {N : Nat} {i j : Nat} (hij : i < j) : gapN N l i < gapN N l j := by
  have := cn_mono l (i : Int) (j : Int) (by omega) l.length
  unfold gapN; omega
theorem gap_bead {l : List Int} (h : Part l) {N : Nat} (hN : l.length ≤ N) (k j : Nat) : gapN N l j < beadN N l k ↔ (j : Int) < l.getD k 0 := by
  have h1 := cn_iff' h (j : Int) (by omega) k
  unfold gapN beadN
  constructor
  · intro h2
    rcases Int.lt_or_le (j : Int) (l.getD k 0) with g | g
    · exact g
    · have : ¬ k < cn l j l.length := fun e => by have := h1.2 e; omega
      omega
  · intro h2
    have := h1.1 h2
    omega
theorem gap_ne {l : List Int} (h : Part l) {N : Nat} (hN : l.length ≤ N) (k j : Nat) : gapN N l j ≠ beadN N l k := by
  have h1 := cn_iff' h (j : Int) (by omega) k
  unfold gapN beadN
  intro e
  rcases Int.lt_or_le (j : Int) (l.getD k 0) with g | g
  · have := h1.1 g; omega
  · have : ¬ k < cn l j l.length := fun e => by have := h1.2 e; omega
    omega
theorem cut_ex {b : Nat → Int} (hb : ∀ i j, i < j → b j < b i) (z : Int) : ∀ m, (∀ k, k < m → b k ≠ z) → ∃ k0, k0 ≤ m ∧ (∀ k, k < k0 → z < b k) ∧ ∀ k, k0 ≤ k → k < m → b k < z := by
  intro m
  induction m with
  | zero => intro _; exact ⟨0, Nat.le_refl _, fun k hk => by omega, fun k _ hk => by omega⟩
  | succ m ih =>
    intro hne
    obtain ⟨k0, h1, h2, h3⟩ := ih (fun k hk => hne k (by omega))
    by_cases e : k0 = m
    · subst e
      rcases Int.lt_or_le z (b k0) with g | g
      · refine ⟨k0 + 1, Nat.le_refl _, fun k hk => ?_, fun k _ hk => by omega⟩
        by_cases e : k = k0
        · subst e; exact g
        · exact h2 k (by omega)
      · refine ⟨k0, by omega, h2, fun k hk1 hk2 => ?_⟩
        obtain rfl : k = k0 := by omega
        have := hne k (by omega); omega
    · refine ⟨k0, by omega, h2, fun k hk1 hk2 => ?_⟩
      by_cases e2 : k = m
      · subst e2
        have a := h3 k0 (Nat.le_refl _) (by omega)
        have := hb k0 k (by omega); omega
      · exact h3 k hk1 (by omega)
/-- what is no bead is a gap -/
theorem gap_ex {l : List Int} (h : Part l) {N : Nat} (hN : l.length ≤ N) {z : Int} (hz : 0 ≤ z) (hn : ¬ inS N l z) : ∃ j : Nat, gapN N l j = z := by
  obtain ⟨k0, h1, h2, h3⟩ := cut_ex (b := beadN N l) (fun i j hij => beadN_lt h.pf N hij) z N (fun k hk e => hn ⟨k, hk, e⟩)
  have hz2 : (N : Int) - k0 ≤ z := by
    by_cases e : k0 = N
    · omega
    · have a := h3 k0 (Nat.le_refl _) (by omega)
      have := h.pf.nonneg k0
      unfold beadN at a; omega
  obtain ⟨j, hj⟩ : ∃ j : Nat, (j : Int) = z - N + k0 := ⟨(z - N + k0).toNat, by omega⟩
  have hc : cn l (j : Int) l.length = k0 := by
    rcases Nat.lt_trichotomy (cn l (j : Int) l.length) k0 with g | g | g
    · exfalso
      have a := h2 (k0 - 1) (by omega)
      have b := (cn_iff' h (j : Int) (by omega) (k0 - 1)).1 (by unfold beadN at a; omega)
      omega
    · exact g
    · exfalso
      have a := (cn_iff' h (j : Int) (by omega) k0).2 g
      by_cases e : k0 < N
      · have b := h3 k0 (Nat.le_refl _) e
        unfold beadN at b; omega
      · rw [gd_out (by omega)] at a; omega
  exact ⟨j, by unfold gapN; rw [hc]; omega⟩
theorem conj_beadN {l : List Int} (h : Part l) (N M : Nat) (j : Nat) (hM : l.getD 0 0 ≤ M) : beadN M (conj l) j = (N : Int) + M - 1 - gapN N l j := by
  have e : (conj l).getD j 0 = (cn l j l.length : Nat) := by
    by_cases hj : (j : Int) < l.getD 0 0
    · exact conj_getD j hj
    · have hl := conj_len h
      rw [gd_out (by omega)]
      have : ¬ 0 < cn l j l.length := fun e => hj ((cn_iff' h (j : Int) (by omega) 0).2 e)
      omega
  unfold beadN gapN
  rw [e]; omega
theorem conj_inS {l : List Int} (h : Part l) {N M : Nat} (hN : l.length ≤ N) (hM : l.getD 0 0 ≤ M) (z : Int) : inS M (conj l) z ↔ 0 ≤ z ∧ z ≤ (N : Int) + M - 1 ∧ ¬ inS N l ((N : Int) + M - 1 - z) := by
  constructor
  · rintro ⟨j, hj, rfl⟩
    refine ⟨beadN_nonneg (conj_part h).pf hj, ?_, ?_⟩
    · rw [conj_beadN h N M j hM]
      have := cn_bd l (j : Int) l.length
      unfold gapN; omega
    · rintro ⟨k, _, e⟩
      rw [conj_beadN h N M j hM] at e
      exact gap_ne h hN k j (by omega)
  · rintro ⟨h1, h2, h3⟩
    obtain ⟨j, hj⟩ := gap_ex h hN (by omega) h3
    refine ⟨j, ?_, by rw [conj_beadN h N M j hM, hj]; omega⟩
    rcases Nat.lt_or_ge j M with g | g
    · exact g
    · exfalso
      have : ¬ 0 < cn l j l.length := fun e => by have := (cn_iff' h (j : Int) (by omega) 0).2 e; omega
      unfold gapN at hj; omega
theorem inS_le {l : List Int} (h : Pf l) {N : Nat} {x : Int} (hx : inS N l x) : x ≤ l.getD 0 0 + N - 1 := by
  obtain ⟨k, _, rfl⟩ := hx
  have := h.fall' (Nat.zero_le k)
  unfold beadN; omega
/-- the conjugate of what is left without a rim hook -/
theorem RmL_conj {l m : List Int} (h : Part l) {p : Int} (hp : 1 ≤ p) (hm : m ∈ RmL l p) : conj m ∈ RmL (conj l) p := by
  obtain ⟨N, hN⟩ : ∃ N, N = l.length + 1 := ⟨_, rfl⟩
  obtain ⟨M, hM⟩ : ∃ M : Nat, (M : Int) = l.getD 0 0 := ⟨(l.getD 0 0).toNat, by have := h.pf.nonneg 0; omega⟩
  obtain ⟨pm, lm, x, a1, a2, a3, a4⟩ := RmL_down h hp (show l.length ≤ N by omega) hm
  have hx := inS_le h.pf a1
  have hm0 : m.getD 0 0 ≤ M := by
    rcases (a4 _).1 ⟨0, by omega, rfl⟩ with hh | hh
    · have := inS_le h.pf hh.1
      unfold beadN at this; omega
    · unfold beadN at hh; omega
  have cl := fun z => conj_inS h (show l.length ≤ N by omega) (show l.getD 0 0 ≤ (M : Int) by omega) z
  have cm := fun z => conj_inS pm lm hm0 z
  have hlc : (conj l).length ≤ M := by have := conj_len h; omega
  have hmc : (conj m).length ≤ M := by have := conj_len pm; omega
  obtain ⟨d, hd, _, _, _, d4⟩ := down_ex (conj_part h) hp hlc (x := (N : Int) + M - 1 - (x - p)) ((cl _).2 ⟨by omega, by omega, by rw [show (N : Int) + M - 1 - ((N : Int) + M - 1 - (x - p)) = x - p by omega]; exact a3⟩) (by omega) (fun hh => by
    have := ((cl _).1 hh).2.2
    rw [show (N : Int) + M - 1 - ((N : Int) + M - 1 - (x - p) - p) = x by omega] at this
    exact this a1)
  have hdp := RmL_down (conj_part h) hp hlc hd
  have e : d = conj m := by
    refine inS_ext hdp.1.pf (conj_part pm).pf hdp.2.1 hmc (fun z => ?_)
    rw [d4, cl, cm, a4]
    constructor
    · rintro (⟨⟨b1, b2, b3⟩, b4⟩ | rfl)
      · refine ⟨b1, b2, ?_⟩
        rintro (⟨c1, _⟩ | c1)
        · exact b3 c1
        · omega
      · refine ⟨by omega, by omega, ?_⟩
        rintro (⟨_, c2⟩ | c1)
        · omega
        · omega
    · rintro ⟨b1, b2, b3⟩
      by_cases c : z = (N : Int) + M - 1 - (x - p) - p
      · exact .inr c
      · refine .inl ⟨⟨b1, b2, fun c1 => b3 (.inl ⟨c1, by omega⟩)⟩, fun c1 => b3 (.inr (by omega))⟩
  rw [← e]; exact hd
theorem core_conj {p : Int} (hp : 1 ≤ p) {l c : List Int} (hc : CoreR p l c) (h : Part l) : CoreR p (conj l) (conj c) := by
  induction hc with
  | done hr =>
    refine .done ?_
    cases hr2 : RmL (conj _) p with
    | nil => rfl
    | cons d r =>
      have := RmL_conj (conj_part h) hp (show d ∈ RmL (conj _) p by rw [hr2]; exact List.mem_cons_self)
      rw [conj_conj h, hr] at this
      cases this
  | step hr hc' ih =>
    have hm := RmL_part h hp (by rw [hr]; exact List.mem_cons_self)
    have h1 := RmL_conj h hp (by rw [hr]; exact List.mem_cons_self)
    have h2 := ih hm.1
    obtain ⟨c', hc2⟩ := core_ex hp 100 (conj _) (conj_part h) (by have := (conj_part h).2; omega)
    have h3 := core_conf hp 100 _ _ c' (conj_part h) (by have := (conj_part h).2; omega) hc2 h1
    rw [h2.unique h3]; exact hc2
end Go.Proofs.Ytpgpkgnljoedaaa
