/- Plain mathematics of the golden word: its beginnings, its image, how many parts of a length it has. -/
import Derived.Lib.Strings
namespace Go.Proofs.YtkmnelmgckbmpaaGreatDoor

/-- the words: each is the one before it and the one before that -/
def wd : Nat → List UInt8
  | 0 => [48]
  | 1 => [48, 49]
  | k + 2 => wd (k + 1) ++ wd k
/-- their lengths -/
def wl : Nat → Nat
  | 0 => 1
  | 1 => 2
  | k + 2 => wl (k + 1) + wl k
theorem wd_length : ∀ k, (wd k).length = wl k
  | 0 => rfl
  | 1 => rfl
  | k + 2 => by rw [wd, wl, List.length_append, wd_length (k + 1), wd_length k]
theorem wd_next : ∀ k, ∃ l, wd (k + 1) = wd k ++ l
  | 0 => ⟨[49], rfl⟩
  | k + 1 => ⟨wd k, rfl⟩
theorem wd_prefix (j : Nat) : ∀ k, ∃ l, wd (j + k) = wd j ++ l
  | 0 => ⟨[], by simp⟩
  | k + 1 => by
    obtain ⟨l, h⟩ := wd_prefix j k
    obtain ⟨m, h2⟩ := wd_next (j + k)
    exact ⟨l ++ m, by rw [← Nat.add_assoc, h2, h, List.append_assoc]⟩
theorem wl_16 : wl 16 = 2584 := by decide +kernel
theorem wl_17 : wl 17 = 4181 := by decide +kernel
/-- the beginning of the golden word -/
def gw (n : Nat) : List UInt8 := (wd 17).take n
theorem gw_wd (j n : Nat) (hj : j ≤ 17) (hn : n ≤ wl j) : (wd j).take n = gw n := by
  obtain ⟨l, h⟩ := wd_prefix j (17 - j)
  rw [show j + (17 - j) = 17 by omega] at h
  unfold gw
  rw [h, List.take_append_of_le_length (by rw [wd_length]; exact hn)]
theorem gw_length (n : Nat) (hn : n ≤ 4181) : (gw n).length = n := by
  unfold gw; rw [List.length_take, wd_length, wl_17]; omega
theorem gw_take (n m : Nat) (h : n ≤ m) : (gw m).take n = gw n := by
  unfold gw; rw [List.take_take]; congr 1; omega
/-- the image of a letter -/
def im (c : UInt8) : List UInt8 := if c = 48 then [48, 49] else [48]
theorem im_wd : ∀ k, (wd k).flatMap im = wd (k + 1)
  | 0 => by decide
  | 1 => by decide
  | k + 2 => by rw [wd, List.flatMap_append, im_wd (k + 1), im_wd k]; rfl
/-- the image of a beginning is a beginning -/
theorem im_gw (n : Nat) (hn : n ≤ 2000) : (gw n).flatMap im = gw ((gw n).flatMap im).length := by
  have h := gw_wd 16 n (by omega) (by rw [wl_16]; omega)
  have e : wd 17 = ((wd 16).take n).flatMap im ++ ((wd 16).drop n).flatMap im := by
    rw [← List.flatMap_append, List.take_append_drop]; exact (im_wd 16).symm
  rw [← h]
  conv => rhs; unfold gw; rw [e]
  rw [List.take_left']
  rfl
theorem letters : ∀ k, ∀ c ∈ wd k, c = 48 ∨ c = 49
  | 0 => by decide
  | 1 => by decide
  | k + 2 => by
    intro c hc
    rw [wd, List.mem_append] at hc
    rcases hc with h | h
    · exact letters (k + 1) c h
    · exact letters k c h
theorem gw_letters (n : Nat) : ∀ c ∈ gw n, c = 48 ∨ c = 49 := fun c hc => letters 17 c (List.mem_of_mem_take hc)
theorem im_length_le (l : List UInt8) : (l.flatMap im).length ≤ 2 * l.length := by
  induction l with
  | nil => simp
  | cons c l ih =>
    rw [List.flatMap_cons, List.length_append, List.length_cons]
    have : (im c).length ≤ 2 := by unfold im; split <;> simp
    omega
theorem im_length_ge (l : List UInt8) : l.length ≤ (l.flatMap im).length := by
  induction l with
  | nil => simp
  | cons c l ih =>
    rw [List.flatMap_cons, List.length_append, List.length_cons]
    have : 1 ≤ (im c).length := by unfold im; split <;> simp
    omega
/-- the length of the image by the number of letters 0 -/
theorem im_length_count (l : List UInt8) : (l.flatMap im).length = l.length + l.count 48 := by
  induction l with
  | nil => simp
  | cons c l ih =>
    rw [List.flatMap_cons, List.length_append, List.length_cons, ih, List.count_cons]
    unfold im
    by_cases h : c = 48
    · simp [h]; omega
    · simp [h]; omega

/-- the parts of a length that are met up to a place, in the order in which they are met -/
def met (k : Nat) : Nat → List (List UInt8)
  | 0 => []
  | i + 1 => let x := ((gw 400).drop i).take k; if x ∈ met k i then met k i else met k i ++ [x]
/-- the same, reckoned with accumulators: the rest of the word, what is met -/
def metF (k : Nat) : Nat → List UInt8 → List (List UInt8) → List (List UInt8)
  | 0, _, acc => acc
  | i + 1, l, acc => metF k i l.tail (if (l.take k) ∈ acc then acc else acc ++ [l.take k])
theorem metF_eq (k : Nat) (n : Nat) : ∀ j, metF k n ((gw 400).drop j) (met k j) = met k (j + n) := by
  induction n with
  | zero => intro j; rfl
  | succ n ih =>
    intro j
    rw [metF, List.tail_drop, show j + (n + 1) = (j + 1) + n by omega, ← ih (j + 1)]
    rfl
theorem gw_400 : gw 400 = (wd 12 ++ (wd 11).take 23) := by
  have h := gw_wd 13 400 (by omega) (by decide +kernel)
  rw [← h]
  have : wd 13 = wd 12 ++ wd 11 := rfl
  rw [this, List.take_append, wd_length, List.take_of_length_le (by rw [wd_length]; decide +kernel)]
  rfl
theorem met_length (k : Nat) (hk : k < 12) : (met k (401 - k)).length = k + 1 := by
  have h := metF_eq k (401 - k) 0
  rw [Nat.zero_add] at h
  rw [← h, List.drop_zero, gw_400]
  have hall : (List.range 12).all (fun k => (metF k (401 - k) (wd 12 ++ (wd 11).take 23) (met k 0)).length == k + 1) = true := by decide +kernel
  have := List.all_eq_true.1 hall k (List.mem_range.2 hk)
  simpa using this
end Go.Proofs.YtkmnelmgckbmpaaGreatDoor
