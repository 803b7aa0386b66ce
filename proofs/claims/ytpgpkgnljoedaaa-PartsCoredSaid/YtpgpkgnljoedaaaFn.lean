/- Franklin's move as a function on lists, and what it does on all partitions into different parts (a finite check). -/
import Derived.Test.YtpgpkgnljoedaaaVa
import Derived.Test.YtpgpkgnljoedaaaPe
namespace Go.Proofs.Ytpgpkgnljoedaaa
/-- the parts are different -/
def Dif (l : List Int) : Prop := ∀ k, k + 1 < l.length → l.getD (k + 1) 0 ≠ l.getD k 0
/-- the first t parts fall by one -/
def IsRun (l : List Int) (t : Nat) : Prop := 1 ≤ t ∧ t ≤ l.length ∧ (∀ j, j < t → l.getD j 0 = l.getD 0 0 - j) ∧ (t < l.length → l.getD t 0 ≠ l.getD 0 0 - t)
def run (l : List Int) : Nat → Nat → Nat
  | 0, t => t
  | f + 1, t => if t < l.length ∧ l.getD t 0 = l.getD 0 0 - t then run l f (t + 1) else t
def runT (l : List Int) : Nat := run l l.length 1
theorem run_stop (l : List Int) (T : Nat) (h : IsRun l T) : ∀ f t, t ≤ T → T ≤ f + t → run l f t = T := by
  intro f
  induction f with
  | zero => intro t h1 h2; rw [run]; omega
  | succ f ih =>
    intro t h1 h2
    rw [run]
    by_cases e : t = T
    · subst e
      rw [if_neg (fun hc => h.2.2.2 hc.1 hc.2)]
    · rw [if_pos ⟨by have := h.2.1; omega, h.2.2.1 t (by omega)⟩]
      exact ih (t + 1) (by omega) (by omega)
theorem IsRun.eq {l : List Int} {t : Nat} (h : IsRun l t) : runT l = t := run_stop l t h _ 1 h.1 (by have := h.2.1; omega)
/-- the first k parts changed by d -/
def bump (l : List Int) (k : Nat) (d : Int) : List Int := (List.range l.length).map fun i => l.getD i 0 + if i < k then d else 0
theorem bump_length (l : List Int) (k : Nat) (d : Int) : (bump l k d).length = l.length := by simp [bump]
theorem bump_zero (l : List Int) (d : Int) : bump l 0 d = l := by
  apply List.ext_getElem
  · simp [bump]
  · intro i h1 h2
    simp [bump, List.getElem?_eq_getElem h2]
theorem bump_get (l : List Int) (k : Nat) (d : Int) (i : Nat) (h : i < l.length) : (bump l k d)[i]? = some (l.getD i 0 + if i < k then d else 0) := by
  simp [bump, h]
theorem bump_succ (l : List Int) (k : Nat) (d : Int) (h : k < l.length) : bump l (k + 1) d = (bump l k d).set k (l.getD k 0 + d) := by
  apply List.ext_getElem?
  intro i
  rw [List.getElem?_set, bump_length]
  by_cases hi : i < l.length
  · rw [bump_get l _ d i hi, bump_get l _ d i hi]
    by_cases e : k = i
    · subst e; simp [h]
    · rw [if_neg e]
      by_cases h1 : i < k
      · rw [if_pos h1, if_pos (by omega)]
      · rw [if_neg h1, if_neg (by omega)]
  · rw [List.getElem?_eq_none (by rw [bump_length]; omega), List.getElem?_eq_none (by rw [bump_length]; omega), if_neg (by omega)]
/-- Franklin's move; none: it can't be done -/
def FR (l : List Int) : Option (List Int) :=
  let n := l.length
  let s := l.getD (n - 1) 0
  let t := runT l
  if t = n ∧ (s = t ∨ s = t + 1) then none
  else if s ≤ t then some (bump (l.take (n - 1)) s.toNat 1)
  else some (bump l t (-1) ++ [(t : Int)])
/-- all partitions into different parts -/
def sprt : Nat → Nat → Nat → List (List Int)
  | 0, n, _ => if n = 0 then [[]] else []
  | f + 1, n, most => if n = 0 then [[]] else (List.range (min n most)).flatMap fun i => (sprt f (n - (i + 1)) i).map (((i + 1 : Nat) : Int) :: ·)
def FallS : Int → List Int → Prop
  | _, [] => True
  | m, x :: t => 1 ≤ x ∧ x ≤ m ∧ FallS (x - 1) t
theorem fallS_sum : ∀ (t : List Int) (m : Int), FallS m t → 0 ≤ t.sum := by
  intro t
  induction t with
  | nil => intro m _; simp
  | cons y t ih => intro m h; have := ih _ h.2.2; have := h.1; rw [List.sum_cons]; omega
theorem mem_sprt : ∀ (f n most : Nat) (l : List Int), n ≤ f → FallS most l → l.sum = n → l ∈ sprt f n most := by
  intro f
  induction f with
  | zero =>
    intro n most l hn hf hs
    obtain rfl : n = 0 := by omega
    match l, hf, hs with
    | [], _, _ => simp [sprt]
    | x :: t, hf, hs =>
      have := fallS_sum t _ hf.2.2
      have := hf.1
      rw [List.sum_cons] at hs
      omega
  | succ f ih =>
    intro n most l hn hf hs
    match l, hf, hs with
    | [], _, hs =>
      have : n = 0 := by simp at hs; omega
      subst this
      simp [sprt]
    | x :: t, hf, hs =>
      obtain ⟨h1, h2, h3⟩ := hf
      rw [List.sum_cons] at hs
      have ht := fallS_sum t _ h3
      obtain ⟨k, rfl⟩ : ∃ k : Nat, x = ((k + 1 : Nat) : Int) := ⟨(x - 1).toNat, by omega⟩
      rw [sprt, if_neg (by omega), List.mem_flatMap]
      refine ⟨k, by rw [List.mem_range]; omega, ?_⟩
      rw [List.mem_map]
      refine ⟨t, ih (n - (k + 1)) k t (by omega) ?_ (by omega), rfl⟩
      have e : ((k + 1 : Nat) : Int) - 1 = k := by omega
      rw [e] at h3; exact h3
theorem fallS_of : ∀ (l : List Int) (m : Int), (∀ k, k < l.length → 1 ≤ l.getD k 0 ∧ (1 ≤ k → l.getD k 0 < l.getD (k - 1) 0)) → (0 < l.length → l.getD 0 0 ≤ m) → FallS m l := by
  intro l
  induction l with
  | nil => intro m _ _; trivial
  | cons x t ih =>
    intro m h hm
    refine ⟨(h 0 (by simp)).1, hm (by simp), ih (x - 1) (fun k hk => ⟨?_, fun hk1 => ?_⟩) (fun ht => ?_)⟩
    · have := (h (k + 1) (by simp; omega)).1
      simpa using this
    · have := (h (k + 1) (by simp; omega)).2 (by omega)
      rw [Nat.add_sub_cancel] at this
      have e : (x :: t).getD k 0 = t.getD (k - 1) 0 := by
        obtain ⟨j, rfl⟩ : ∃ j, k = j + 1 := ⟨k - 1, by omega⟩
        simp
      rw [e] at this
      simpa using this
    · have := (h 1 (by simp; omega)).2 (by omega)
      simp at this ⊢
      omega
theorem Part.smem {l : List Int} (h : Part l) (hd : Dif l) (n : Nat) (hn : l.sum = n) : l ∈ sprt n n n := by
  refine mem_sprt n n n l (Nat.le_refl _) (fallS_of l n (fun k hk => ⟨(h.1 k hk).1, fun h1 => ?_⟩) (fun h0 => ?_)) hn
  · have a := (h.1 k hk).2.2 h1
    have b := hd (k - 1) (by omega)
    rw [show k - 1 + 1 = k by omega] at b
    omega
  · have h1 := sum_mono l h.1 1 (by omega) l.length (by omega) (Nat.le_refl _)
    rw [List.take_length, take_sum l 0 h0] at h1
    simp at h1
    simp
    omega
def okB (l : List Int) : Bool := (List.range l.length).all (fun k => decide (1 ≤ l.getD k 0) && decide (l.getD k 0 ≤ 30) && (decide (k = 0) || decide (l.getD k 0 < l.getD (k - 1) 0)))
theorem okB_part {l : List Int} (h : okB l = true) (hs : l.sum ≤ 30) : Part l ∧ Dif l := by
  unfold okB at h
  simp only [Bool.and_eq_true, List.all_eq_true, List.mem_range, decide_eq_true_eq, Bool.or_eq_true] at h
  refine ⟨⟨fun k hk => ⟨(h k hk).1.1, (h k hk).1.2, fun h1 => ?_⟩, hs⟩, fun k hk => ?_⟩
  · rcases (h k hk).2 with h2 | h2
    · omega
    · omega
  · rcases (h (k + 1) hk).2 with h2 | h2
    · omega
    · rw [Nat.add_sub_cancel] at h2; omega
def moveB (tab : List Int) (n : Nat) (l : List Int) : Bool :=
  match FR l with
  | none => tab.getD n 0 == 1 - 2 * ((l.length % 2 : Nat) : Int)
  | some r => okB r && decide (0 < r.length) && (FR r == some l) && (decide (r.length = l.length + 1) || decide (l.length = r.length + 1)) && (r.sum == (n : Int))
set_option maxHeartbeats 0 in
theorem move_all : (let tab := rowE 30 30; (List.range 30).all fun m => (sprt (m + 1) (m + 1) (m + 1)).all (moveB tab (m + 1))) = true := by decide +kernel
theorem move_ok {l : List Int} (h : Part l) (hd : Dif l) (n : Nat) (hn : l.sum = n) (h1 : 1 ≤ n) :
    (FR l = none → En n n = 1 - 2 * ((l.length % 2 : Nat) : Int)) ∧ (∀ r, FR l = some r → Part r ∧ Dif r ∧ 0 < r.length ∧ FR r = some l ∧ (r.length = l.length + 1 ∨ l.length = r.length + 1) ∧ r.sum = n) := by
  have hn30 : n ≤ 30 := by have := h.2; omega
  have a := List.all_eq_true.1 move_all (n - 1) (List.mem_range.2 (by omega))
  rw [show n - 1 + 1 = n by omega] at a
  have b := List.all_eq_true.1 a l (h.smem hd n hn)
  unfold moveB at b
  constructor
  · intro e
    rw [e] at b
    have c := (rowE_get 30 30).2 n (by omega)
    simp only [List.getD, c, Option.getD_some, beq_iff_eq] at b
    rw [← b]
    exact (En_stop n 30 hn30).symm
  · intro r e
    rw [e] at b
    simp only [Bool.and_eq_true, decide_eq_true_eq, beq_iff_eq, Bool.or_eq_true] at b
    obtain ⟨⟨⟨⟨b1, b2⟩, b3⟩, b4⟩, b5⟩ := b
    have := okB_part b1 (by omega)
    exact ⟨this.1, this.2, b2, b3, b4, b5⟩
end Go.Proofs.Ytpgpkgnljoedaaa
