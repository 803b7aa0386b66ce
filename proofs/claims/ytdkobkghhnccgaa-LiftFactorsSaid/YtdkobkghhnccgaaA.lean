/- Walks of small functions of lift: primes, powers, polynomials, values. -/
import Derived.Test.YtdkobkghhnccgaaShp
import Derived.Test.YtdkobkghhnccgaaM
import Derived.Outline
namespace Go.Proofs.Ytdkobkghhnccgaa
open Go.RowKit
def PrimeI (p : Int) : Prop := p = 2 ∨ p = 3 ∨ p = 5 ∨ p = 7 ∨ p = 11 ∨ p = 13
theorem contains_own (base : Nat) (v : Value) (xs : List Int) (x : Int) (w : World) (h : Own w base v xs) :
    Calls Try.prog 18 #[v, .int .i64 x] w fun e w' => e = .returned (.bool (xs.contains x)) ∧ w = w' := by
  rcases h.parts with ⟨rfl, rfl⟩ | ⟨g, n, cap, rfl⟩
  · have hcon := AnyG.slices_Contains_int_empty l18 none 0 x w
    change Calls Try.prog 18 _ _ _ at hcon
    refine hcon.mono ?_
    rintro e w' ⟨rfl, rfl⟩
    exact ⟨rfl, rfl⟩
  · obtain ⟨hn, hc, hm, _, _⟩ := h.nums
    subst hn
    have hcon := AnyG.slices_Contains_int l18 g 0 xs.length cap xs x w (Nat.le_refl _) (by omega) (fun j hj => by
      have := (h.holds j (by simpa using hj)).1
      rw [this]
      simp [hj])
    change Calls Try.prog 18 _ _ _ at hcon
    refine hcon.mono ?_
    rintro e w' ⟨rfl, rfl⟩
    exact ⟨by rw [List.take_length], rfl⟩
theorem isPrime_any (p : Int) (r : Bool) (hr : r = true ↔ PrimeI p) (w : World) :
    Calls Try.prog 63 #[.int .i64 p] w fun e w' => e = .returned (.bool r) ∧ Below w.heap.size w w' := by
  have H := Lib.hid (show ([2, 3, 5, 7, 11, 13] : List Int).contains p = r by
    cases r
    · rw [Bool.eq_false_iff]
      intro h
      have := hr.2 (by simpa [PrimeI] using h)
      cases this
    · have := hr.1 rfl
      simpa [PrimeI] using this)
  have HO := Lib.hid (Own.lit w w.heap.size (Nat.le_refl _) #[.int .i64 2, .int .i64 3, .int .i64 5, .int .i64 7, .int .i64 11, .int .i64 13] [2, 3, 5, 7, 11, 13] 6 rfl rfl (by decide))
  clear hr
  go_enter Try.func63, Try.ntmps63
  go_wp2_with fail
  refine (contains_own _ _ _ p _ HO.out).mono ?_
  rintro e _ ⟨rfl, rfl⟩
  rw [H.out]
  go_wp2_with fail
  go_ret
  exact ⟨rfl, (Below.refl _ _).alloc (Nat.le_refl _) _⟩
set_option maxHeartbeats 4000000 in
theorem rPrime_any (p : Int) (r : Bool) (hr : r = true ↔ PrimeI p) (w : World) :
    Calls Try.prog 39 #[.int .i64 p] w fun e w' => e = .returned (.bool r) ∧ w = w' := by
  by_cases h : PrimeI p
  · obtain rfl : r = true := hr.2 h
    clear hr
    rcases h with rfl | rfl | rfl | rfl | rfl | rfl
    all_goals
      go_enter Try.func39, Try.ntmps39
      go_wp2_with fail
      go_ret
      exact ⟨rfl, rfl⟩
  · obtain rfl : r = false := by cases r; rfl; exact absurd (hr.1 rfl) h
    clear hr
    unfold PrimeI at h
    have e1 : (p == 2) = false := by rw [beq_eq_false_iff_ne]; omega
    have e2 : (p == 3) = false := by rw [beq_eq_false_iff_ne]; omega
    have e3 : (p == 5) = false := by rw [beq_eq_false_iff_ne]; omega
    have e4 : (p == 7) = false := by rw [beq_eq_false_iff_ne]; omega
    have e5 : (p == 11) = false := by rw [beq_eq_false_iff_ne]; omega
    have e6 : (p == 13) = false := by rw [beq_eq_false_iff_ne]; omega
    clear h
    go_enter Try.func39, Try.ntmps39
    go_wp2_with fail
    go_ret
    exact ⟨rfl, rfl⟩
/-- p^k may be asked for -/
def PK (p k : Int) : Prop := ∃ P K : Nat, p = P ∧ k = K ∧ isP P ∧ 1 ≤ K ∧ pn P K ≤ 20000
theorem isP_int {P : Nat} : PrimeI (P : Int) ↔ isP P := by unfold PrimeI isP; omega
theorem pn_mono {p : Nat} (h : 0 < p) (a b : Nat) (hab : a ≤ b) : pn p a ≤ pn p b := by
  rw [show b = a + (b - a) by omega, pn_add]
  exact Nat.le_mul_of_pos_right _ (pn_pos h _)
theorem pn_two {p : Nat} (h : 2 ≤ p) : ∀ k, pn 2 k ≤ pn p k := by
  intro k
  induction k with
  | zero => exact Nat.le_refl _
  | succ k ih => exact Nat.mul_le_mul ih h
theorem pn_k {p k : Nat} (h : 2 ≤ p) (hk : pn p k ≤ 20000) : k ≤ 14 := by
  rcases Nat.lt_or_ge k 15 with g | g
  · omega
  · have h1 := pn_two h k
    have h2 := pn_mono (p := 2) (by omega) 15 k g
    have : pn 2 15 = 32768 := by decide
    omega
theorem prod_bd {a p : Nat} (ha : a ≤ 20000) (hp : p ≤ 13) : 0 ≤ (a : Int) * p ∧ (a : Int) * p ≤ 260000 := by
  have : a * p ≤ 20000 * 13 := Nat.mul_le_mul ha hp
  have e : ((a * p : Nat) : Int) = (a : Int) * p := by simp
  omega
theorem isP.le {p : Nat} (h : isP p) : p ≤ 13 := by rcases h with h | h | h | h | h | h <;> omega
set_option maxHeartbeats 4000000 in
theorem power_yes (P K : Nat) (hP : isP P) (hK : 1 ≤ K) (hq : pn P K ≤ 20000) (w : World) :
    Calls Try.prog 50 #[.int .i64 P, .int .i64 K] w fun e w' => e = .returned (.tuple #[.int .i64 (pn P K : Nat), .bool true]) ∧ Below w.heap.size w w' := by
  have h2 := hP.pos
  have h13 := hP.le
  have h15 := pn_k h2 hq
  have HM := Lib.hid (fun i (hi : i ≤ K) => (Nat.le_trans (pn_mono (p := P) (by omega) i K hi) hq : pn P i ≤ 20000))
  have HP := Lib.hid hP
  clear hP hq
  go_enter Try.func50, Try.ntmps50
  go_wp2_with fail
  refine (isPrime_any P true (by simp; exact isP_int.2 HP.out) _).mono ?_
  rintro e w1 ⟨rfl, b1⟩
  have hd1 : decide ((K : Int) < 1) = false := decide_eq_false (by omega)
  have hd2 : decide (K < 1) = false := decide_eq_false (by omega)
  have hd3 : decide ((15 : Int) < K) = false := decide_eq_false (by omega)
  have hd4 : decide (15 < K) = false := decide_eq_false (by omega)
  go_wp2_with fail
  clear hd1 hd2 hd3 hd4
  go_loop [6, 19] (fun o i => ∃ k : Nat, k ≤ K ∧ i = .int .i64 k ∧ o = .int .i64 (pn P k : Nat)) (fun _ i => K - (intOf i).toNat)
  case atStart => exact ⟨0, by omega, rfl, rfl⟩
  case round =>
    obtain ⟨k, hk, rfl, rfl⟩ := hrel
    by_cases hlt : k < K
    · have hb1 := HM.out (k + 1) hlt
      have hb0 := HM.out k (by omega)
      have HE := Lib.hid (show ((pn P k : Nat) : Int) * (P : Int) = (pn P (k + 1) : Nat) by rw [pn]; simp)
      have hpb := prod_bd hb0 h13
      have hpb1 := hpb.1
      have hpb2 := hpb.2
      have hle : decide ((20000 : Int) < ((pn P k : Nat) : Int) * (P : Int)) = false := decide_eq_false (by rw [HE.out]; omega)
      clear hpb
      generalize pn P k = a at *
      go_wp2_with fail
      go_round
      case rel => exact ⟨k + 1, by omega, by go_num, by rw [HE.out]⟩
      case measure => simp [intOf]; omega
    · obtain rfl : k = K := by omega
      go_wp2_with fail
      go_ret2
      exact ⟨rfl, b1⟩
set_option maxHeartbeats 4000000 in
theorem power_no (p k : Int) (h : ¬ PK p k) (w : World) :
    Calls Try.prog 50 #[.int .i64 p, .int .i64 k] w fun e w' => e = .returned (.tuple #[.int .i64 0, .bool false]) ∧ Below w.heap.size w w' := by
  by_cases hp : PrimeI p
  · have HP := Lib.hid hp
    obtain ⟨P, rfl⟩ : ∃ P : Nat, p = P := ⟨p.toNat, by unfold PrimeI at hp; omega⟩
    have hP := isP_int.1 hp
    have h2 := hP.pos
    have h13 := hP.le
    clear hp
    by_cases hk1 : k < 1
    · have hd1 : decide (k < 1) = true := decide_eq_true hk1
      clear h
      go_enter Try.func50, Try.ntmps50
      go_wp2_with fail
      refine (isPrime_any P true (by simp; exact HP.out) _).mono ?_
      rintro e w1 ⟨rfl, b1⟩
      go_wp2_with fail
      go_ret2
      exact ⟨rfl, b1⟩
    · have hd1 : decide (k < 1) = false := decide_eq_false hk1
      by_cases hk2 : 15 < k
      · have hd2 : decide (15 < k) = true := decide_eq_true hk2
        clear h
        go_enter Try.func50, Try.ntmps50
        go_wp2_with fail
        refine (isPrime_any P true (by simp; exact HP.out) _).mono ?_
        rintro e w1 ⟨rfl, b1⟩
        go_wp2_with fail
        go_ret2
        exact ⟨rfl, b1⟩
      · have hd2 : decide (15 < k) = false := decide_eq_false hk2
        obtain ⟨K, rfl⟩ : ∃ K : Nat, k = K := ⟨k.toNat, by omega⟩
        have HQ := Lib.hid (show ¬ pn P K ≤ 20000 from fun hq => h ⟨P, K, rfl, rfl, hP, by omega, hq⟩)
        have hd3 : decide (K < 1) = false := decide_eq_false (by omega)
        have hd4 : decide (15 < K) = false := decide_eq_false (by omega)
        clear h hP
        go_enter Try.func50, Try.ntmps50
        go_wp2_with fail
        refine (isPrime_any P true (by simp; exact HP.out) _).mono ?_
        rintro e w1 ⟨rfl, b1⟩
        go_wp2_with fail
        clear hd1 hd2 hd3 hd4
        go_loop [6, 19] (fun o i => ∃ k : Nat, k ≤ K ∧ i = .int .i64 k ∧ o = .int .i64 (pn P k : Nat) ∧ pn P k ≤ 20000) (fun _ i => K - (intOf i).toNat)
        case atStart => exact ⟨0, by omega, rfl, rfl, by simp [pn]⟩
        case round =>
          obtain ⟨k, hk, rfl, rfl, hb0⟩ := hrel
          by_cases hlt : k < K
          · have HE := Lib.hid (show ((pn P k : Nat) : Int) * (P : Int) = (pn P (k + 1) : Nat) by rw [pn]; simp)
            have hpb := prod_bd hb0 h13
            have hpb1 := hpb.1
            have hpb2 := hpb.2
            clear hpb
            by_cases hle : (20000 : Int) < ((pn P k : Nat) : Int) * (P : Int)
            · have hld : decide ((20000 : Int) < ((pn P k : Nat) : Int) * (P : Int)) = true := decide_eq_true hle
              generalize pn P k = a at *
              go_wp2_with fail
              go_ret2
              exact ⟨rfl, b1⟩
            · have hld : decide ((20000 : Int) < ((pn P k : Nat) : Int) * (P : Int)) = false := decide_eq_false hle
              have HX := Lib.hid (show pn P (k + 1) ≤ 20000 by have := HE.out; omega)
              generalize pn P k = a at *
              go_wp2_with fail
              go_round
              case rel => exact ⟨k + 1, by omega, by go_num, by rw [HE.out], HX.out⟩
              case measure => simp [intOf]; omega
          · obtain rfl : k = K := by omega
            exact absurd hb0 HQ.out
  · have HP := Lib.hid hp
    clear h hp
    go_enter Try.func50, Try.ntmps50
    go_wp2_with fail
    refine (isPrime_any p false (by simp; exact HP.out) _).mono ?_
    rintro e w1 ⟨rfl, b1⟩
    go_wp2_with fail
    go_ret2
    exact ⟨rfl, b1⟩
end Go.Proofs.Ytdkobkghhnccgaa
