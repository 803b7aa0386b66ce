/- Plain mathematics: cold pairs (Wythoff), by integers. -/
import Derived.Test.YtiknocjdogbajaaGolden
namespace Go.Proofs.Ytiknocjdogbajaa

theorem G_73 : G 73 = 806515533049393 := G_of _ _ (by decide +kernel)

/-- the last index of the numeral is even -/
def EvenLast (l : List Nat) : Prop := ∀ e, l.getLast? = some e → e % 2 = 0

/-- the sign of the signed sum is that of the last index -/
theorem S_sign (N : Nat) (l : List Nat) (K : Nat) (h : Falls K l) (hN : K + 2 ≤ N) (e : Nat) (he : l.getLast? = some e) : (sgn e = 1 → G (N - K - 1) ≤ S N l) ∧ (sgn e = -1 → S N l ≤ - G (N - K - 1)) := by
  induction l generalizing K with
  | nil => simp at he
  | cons a l ih =>
    obtain ⟨h2, hk, hl⟩ := h
    have mm := G_mono (show N - K - 1 ≤ N - a - 1 by omega)
    have hp := G_pos (N - a - 1) (by omega)
    match l, hl, he, ih with
    | [], _, he, _ =>
      simp at he
      subst he
      have := G_mono (show N - a - 1 ≤ N - a by omega)
      simp only [S]
      constructor <;> intro hs <;> rw [hs] <;> omega
    | b :: l, hl, he, ih =>
      have he' : (b :: l).getLast? = some e := by simpa [List.getLast?_cons] using he
      have i := ih (a - 2) hl (by omega) he'
      have e3 : G (N - (a - 2) - 1) = G (N - a) + G (N - a - 1) := by
        have := G_step (N - a - 1)
        rw [show N - a - 1 + 2 = N - (a - 2) - 1 by omega, show N - a - 1 + 1 = N - a by omega] at this
        exact this
      have p := G_nonneg (N - a)
      rw [S]
      constructor
      · intro hs
        have := i.1 hs
        rcases sgn_cases a with s | s <;> rw [s] <;> omega
      · intro hs
        have := i.2 hs
        rcases sgn_cases a with s | s <;> rw [s] <;> omega

/-- bounds of a shift by three convergents -/
theorem sh_window (x : Nat) (hx : x ≤ 1000000000000) :
    (-72723460248141 < (sh x : Int) * 190392490709135 - x * 308061521170129 ∧ (sh x : Int) * 190392490709135 - x * 308061521170129 < 117669030460994) ∧
    (-117669030460994 < (sh x : Int) * 308061521170129 - x * 498454011879264 ∧ (sh x : Int) * 308061521170129 - x * 498454011879264 < 190392490709135) ∧
    (-190392490709135 < (sh x : Int) * 498454011879264 - x * 806515533049393 ∧ (sh x : Int) * 498454011879264 - x * 806515533049393 < 308061521170129) := by
  have hz := zeck_falls x hx
  have h0 : vs 0 (zeck x) = x := by rw [vs_zero]; exact zeck_sum x hx
  have hm := falls_mem hz
  have key : ∀ N, 62 ≤ N → - G (N - 2) < (sh x : Int) * G N - x * G (N + 1) ∧ (sh x : Int) * G N - x * G (N + 1) < G (N - 1) := by
    intro N hN
    have e := S_eq N (zeck x) (fun k hk => by have := hm k hk; omega)
    have u := S_upper N _ 60 hz (by omega)
    have lo := S_lower N _ 60 hz (by omega) (by omega)
    have p := G_pos (N - 60 - 1) (by omega)
    rw [h0] at e
    have hsh : vs 1 (zeck x) = sh x := rfl
    rw [hsh] at e
    omega
  have k0 := key 70 (by omega)
  have k1 := key 71 (by omega)
  have k2 := key 72 (by omega)
  simp only [Nat.reduceSub, Nat.reduceAdd, G_68, G_69, G_70, G_71, G_72, G_73] at k0 k1 k2
  omega
theorem sh_sign (x : Nat) (hx : x ≤ 1000000000000) (e : Nat) (he : (zeck x).getLast? = some e) :
    (e % 2 = 0 → 0 < (sh x : Int) * 190392490709135 - x * 308061521170129 ∧ 0 < (sh x : Int) * 308061521170129 - x * 498454011879264 ∧ 0 < (sh x : Int) * 498454011879264 - x * 806515533049393) ∧
    (e % 2 = 1 → (sh x : Int) * 190392490709135 - x * 308061521170129 < 0 ∧ (sh x : Int) * 308061521170129 - x * 498454011879264 < 0 ∧ (sh x : Int) * 498454011879264 - x * 806515533049393 < 0) := by
  have hz := zeck_falls x hx
  have h0 : vs 0 (zeck x) = x := by rw [vs_zero]; exact zeck_sum x hx
  have hm := falls_mem hz
  have key : ∀ N, 62 ≤ N → (e % 2 = 0 → 0 < (sh x : Int) * G N - x * G (N + 1)) ∧ (e % 2 = 1 → (sh x : Int) * G N - x * G (N + 1) < 0) := by
    intro N hN
    have q := S_eq N (zeck x) (fun k hk => by have := hm k hk; omega)
    have s := S_sign N _ 60 hz (by omega) e he
    have p := G_pos (N - 60 - 1) (by omega)
    rw [h0] at q
    have hsh : vs 1 (zeck x) = sh x := rfl
    rw [hsh] at q
    constructor
    · intro h
      have := s.1 (by unfold sgn; rw [if_pos h])
      omega
    · intro h
      have := s.2 (by unfold sgn; rw [if_neg (by omega)])
      omega
  have k0 := key 70 (by omega)
  have k1 := key 71 (by omega)
  have k2 := key 72 (by omega)
  simp only [Nat.reduceAdd, G_70, G_71, G_72, G_73] at k0 k1 k2
  exact ⟨fun h => ⟨k0.1 h, k1.1 h, k2.1 h⟩, fun h => ⟨k0.2 h, k1.2 h, k2.2 h⟩⟩

/-- the first heap of the cold pair with the difference n -/
def pa (n : Nat) : Nat := if n = 0 then 0 else sh (n - 1) + 1
theorem pa_zero : pa 0 = 0 := rfl
theorem pa_pos (n : Nat) (h : 1 ≤ n) : pa n = sh (n - 1) + 1 := if_neg (by omega)
/-- the first heap is the greatest number below n times the golden ratio -/
theorem pa_window (n : Nat) (h : 1 ≤ n) (hn : n ≤ 1000000000000) :
    (pa n : Int) * 190392490709135 < n * 308061521170129 ∧ (n : Int) * 308061521170129 < (pa n + 1) * 190392490709135 ∧
    (pa n : Int) * 308061521170129 < n * 498454011879264 ∧ (n : Int) * 498454011879264 < (pa n + 1) * 308061521170129 := by
  have w := sh_window (n - 1) (by omega)
  rw [pa_pos n h]
  obtain ⟨m, rfl⟩ : ∃ m, n = m + 1 := ⟨n - 1, by omega⟩
  simp only [Nat.add_sub_cancel] at *
  push_cast
  omega
/-- what lies in the window is the first heap -/
theorem pa_unique (n x : Nat) (h : 1 ≤ n) (hn : n ≤ 1000000000000) (h1 : (x : Int) * 190392490709135 < n * 308061521170129) (h2 : (n : Int) * 308061521170129 < (x + 1) * 190392490709135) : pa n = x := by
  have w := pa_window n h hn
  omega
theorem pa_mono (n m : Nat) (h : n < m) (hm : m ≤ 1000000000000) : pa n < pa m := by
  have w := pa_window m (by omega) hm
  by_cases h0 : n = 0
  · subst h0; rw [pa_zero]; rw [pa_pos m (by omega)]; omega
  · have w' := pa_window n (by omega) (by omega)
    omega
theorem pa_le (n : Nat) (hn : n ≤ 1000000000000) : n ≤ pa n ∧ pa n ≤ 2 * n := by
  by_cases h0 : n = 0
  · subst h0; simp [pa_zero]
  · have w' := pa_window n (by omega) (by omega)
    omega

/-- the heap that is cold with one -/
def part (x : Nat) : Nat := match (zeck x).getLast? with
  | none => 0
  | some e => if e % 2 = 0 then sh x else sh x - x
/-- a pair is cold -/
def Cold (a b : Nat) : Prop := min a b = pa (max a b - min a b)

theorem zeck_ne (x : Nat) (hx : x ≤ 1000000000000) (h : 1 ≤ x) : ∃ e, (zeck x).getLast? = some e := by
  cases he : (zeck x).getLast? with
  | some e => exact ⟨e, rfl⟩
  | none =>
    rw [List.getLast?_eq_none_iff] at he
    have := zeck_sum x hx
    rw [he, vsum_nil] at this
    omega
theorem part_zero : part 0 = 0 := by
  have : zeck 0 = [] := zk_zero 60
  unfold part; rw [this]; rfl
/-- an even last index: the number is a first heap -/
theorem part_even (x e : Nat) (hx : x ≤ 1000000000000) (h : 1 ≤ x) (he : (zeck x).getLast? = some e) (h2 : e % 2 = 0) :
    part x = sh x ∧ x < sh x ∧ sh x ≤ 2 * x ∧ pa (sh x - x) = x := by
  have hp : part x = sh x := by unfold part; rw [he]; simp [h2]
  have s := (sh_sign x hx e he).1 h2
  have w := sh_window x hx
  have hle := sh_le x hx
  have hlt : x < sh x := by omega
  refine ⟨hp, hlt, hle, ?_⟩
  obtain ⟨n, hn⟩ : ∃ n, sh x = x + n := ⟨sh x - x, by omega⟩
  rw [hn, Nat.add_sub_cancel_left]
  rw [hn] at s w
  push_cast at s w
  exact pa_unique n x (by omega) (by omega) (by omega) (by omega)
/-- an odd last index: the number is a second heap -/
theorem part_odd (x e : Nat) (hx : x ≤ 1000000000000) (h : 1 ≤ x) (he : (zeck x).getLast? = some e) (h2 : e % 2 = 1) :
    part x = sh x - x ∧ part x < x ∧ x ≤ sh x ∧ pa (x - part x) = part x := by
  have hp : part x = sh x - x := by unfold part; rw [he]; simp [h2]
  have s := (sh_sign x hx e he).2 h2
  have w := sh_window x hx
  have hle : x ≤ sh x := by omega
  have hlt : sh x - x < x := by omega
  refine ⟨hp, by omega, hle, ?_⟩
  obtain ⟨y, hy⟩ : ∃ y, sh x = x + y := ⟨sh x - x, by omega⟩
  have hpy : part x = y := by omega
  obtain ⟨n, hn⟩ : ∃ n, x = y + n := ⟨x - y, by omega⟩
  rw [hpy]
  have hn' : x - y = n := by omega
  rw [hn']
  have hs : (sh x : Int) = y + n + y := by omega
  have hx' : (x : Int) = y + n := by omega
  rw [hs, hx'] at s w
  exact pa_unique n y (by omega) (by omega) (by omega) (by omega)
theorem partner_le (x : Nat) (hx : x ≤ 1000000000000) : part x ≤ 2 * x := by
  by_cases h : 1 ≤ x
  · obtain ⟨e, he⟩ := zeck_ne x hx h
    rcases Nat.mod_two_eq_zero_or_one e with h2 | h2
    · have := part_even x e hx h he h2; omega
    · have := part_odd x e hx h he h2; omega
  · have : x = 0 := by omega
    subst this; rw [part_zero]; omega
/-- A number is no first heap and second heap at once. -/
theorem beatty (n m : Nat) (h1 : 1 ≤ n) (h2 : 1 ≤ m) (hn : n ≤ 100000000000) (hm : m ≤ 100000000000) : pa n ≠ pa m + m := by
  intro h
  have w := pa_window n h1 (by omega)
  have v := pa_window m h2 (by omega)
  have hx : (pa m : Int) = pa n - m := by omega
  rw [hx] at v
  generalize (pa n : Int) = x at *
  rcases Int.lt_or_le x (n + m) with hc | hc
  · omega
  · omega
theorem cold_symm {a b : Nat} : Cold a b ↔ Cold b a := by unfold Cold; rw [Nat.min_comm, Nat.max_comm]
/-- cold with a is just the partner of a -/
theorem cold_part (a b : Nat) (ha : a ≤ 10000000000) (hb : b ≤ 10000000000) : Cold a b ↔ b = part a := by
  by_cases h : 1 ≤ a
  · obtain ⟨e, he⟩ := zeck_ne a (by omega) h
    rcases Nat.mod_two_eq_zero_or_one e with h2 | h2
    · obtain ⟨p1, p2, p3, p4⟩ := part_even a e (by omega) h he h2
      constructor
      · intro hc
        unfold Cold at hc
        rcases Nat.le_total a b with hab | hab
        · rw [Nat.min_eq_left hab, Nat.max_eq_right hab] at hc
          rw [p1]
          rcases Nat.lt_trichotomy (b - a) (sh a - a) with hl | hl | hl
          · have := pa_mono _ _ hl (by omega); omega
          · omega
          · have := pa_mono _ _ hl (by omega); omega
        · rw [Nat.min_eq_right hab, Nat.max_eq_left hab] at hc
          by_cases hab' : a = b
          · subst hab'; rw [Nat.sub_self, pa_zero] at hc; omega
          · have := beatty (sh a - a) (a - b) (by omega) (by omega) (by omega) (by omega)
            rw [p4] at this
            omega
      · rintro rfl
        unfold Cold
        rw [p1, Nat.min_eq_left (by omega), Nat.max_eq_right (by omega), p4]
    · obtain ⟨p1, p2, p3, p4⟩ := part_odd a e (by omega) h he h2
      constructor
      · intro hc
        unfold Cold at hc
        rcases Nat.le_total a b with hab | hab
        · rw [Nat.min_eq_left hab, Nat.max_eq_right hab] at hc
          by_cases hab' : a = b
          · subst hab'; rw [Nat.sub_self, pa_zero] at hc; omega
          · have := beatty (b - a) (a - part a) (by omega) (by omega) (by omega) (by omega)
            rw [p4] at this
            omega
        · rw [Nat.min_eq_right hab, Nat.max_eq_left hab] at hc
          have le := pa_le (a - b) (by omega)
          by_cases hab' : a = b
          · subst hab'; rw [Nat.sub_self, pa_zero] at hc; omega
          · rcases Nat.lt_trichotomy (a - b) (a - part a) with hl | hl | hl
            · have := pa_mono _ _ hl (by omega); omega
            · omega
            · have := pa_mono _ _ hl (by omega); omega
      · rintro rfl
        unfold Cold
        rw [Nat.min_eq_right (by omega), Nat.max_eq_left (by omega), p4]
  · have h0 : a = 0 := by omega
    subst h0
    rw [part_zero]
    constructor
    · intro hc
      unfold Cold at hc
      rw [Nat.min_eq_left (Nat.zero_le _), Nat.max_eq_right (Nat.zero_le _), Nat.sub_zero] at hc
      have := pa_le b (by omega)
      omega
    · rintro rfl
      rfl
end Go.Proofs.Ytiknocjdogbajaa
