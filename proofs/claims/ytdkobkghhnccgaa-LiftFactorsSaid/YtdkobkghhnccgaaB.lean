/- Walks of small functions of lift: the reference's powers; polynomials; values modulo a number; the derivative. -/
import Derived.Test.YtdkobkghhnccgaaA
namespace Go.Proofs.Ytdkobkghhnccgaa
open Go.RowKit
set_option maxHeartbeats 4000000 in
theorem rPower_yes (P K : Nat) (hP : isP P) (hK : 1 ≤ K) (hq : pn P K ≤ 20000) (w : World) :
    Calls Try.prog 16 #[.int .i64 P, .int .i64 K] w fun e w' => e = .returned (.int .i64 (pn P K : Nat)) ∧ w = w' := by
  have h2 := hP.pos
  have h13 := hP.le
  have h15 := pn_k h2 hq
  have HM := Lib.hid (fun i (hi : i ≤ K) => (Nat.le_trans (pn_mono (p := P) (by omega) i K hi) hq : pn P i ≤ 20000))
  have HP := Lib.hid hP
  clear hP hq
  go_enter Try.func16, Try.ntmps16
  go_wp2_with fail
  refine (rPrime_any P true (by simp; exact isP_int.2 HP.out) _).mono ?_
  rintro e _ ⟨rfl, rfl⟩
  have hd1 : decide ((K : Int) < 1) = false := decide_eq_false (by omega)
  have hd2 : decide (K < 1) = false := decide_eq_false (by omega)
  have hmin : min (K : Int) 15 = K := by omega
  go_wp2_with fail
  clear hd1 hd2 hmin
  go_loop [5, 15] (fun o i => ∃ k : Nat, k ≤ K ∧ i = .int .i64 k ∧ o = .int .i64 (pn P k : Nat)) (fun _ i => K - (intOf i).toNat)
  case atStart => exact ⟨0, by omega, rfl, rfl⟩
  case round =>
    obtain ⟨k, hk, rfl, rfl⟩ := hrel
    by_cases hlt : k < K
    · have hb1 := HM.out (k + 1) hlt
      have hb0 := HM.out k (by omega)
      have HE := Lib.hid (show ((pn P k : Nat) : Int) * (P : Int) = (pn P (k + 1) : Nat) by rw [pn]; simp)
      have hpb := prod_bd hb0 h13
      have hpb1 := hpb.1
      have hpb2 := hpb.2
      have hle : decide ((20000 : Int) < ((pn P k : Nat) : Int) * (P : Int)) = false := decide_eq_false (by rw [HE.out]; omega)
      clear hpb
      generalize pn P k = a at *
      go_wp2_with fail
      go_round
      case rel => exact ⟨k + 1, by omega, by go_num, by rw [HE.out]⟩
      case measure => simp [intOf]; omega
    · obtain rfl : k = K := by omega
      go_wp2_with fail
      go_ret
      exact ⟨rfl, rfl⟩
set_option maxHeartbeats 4000000 in
theorem rPower_no (p k : Int) (h : ¬ PK p k) (w : World) :
    Calls Try.prog 16 #[.int .i64 p, .int .i64 k] w fun e w' => e = .returned (.int .i64 0) ∧ w = w' := by
  by_cases hp : PrimeI p
  · have HP := Lib.hid hp
    obtain ⟨P, rfl⟩ : ∃ P : Nat, p = P := ⟨p.toNat, by unfold PrimeI at hp; omega⟩
    have hP := isP_int.1 hp
    have h2 := hP.pos
    have h13 := hP.le
    clear hp
    by_cases hk1 : k < 1
    · have hd1 : decide (k < 1) = true := decide_eq_true hk1
      clear h
      go_enter Try.func16, Try.ntmps16
      go_wp2_with fail
      refine (rPrime_any P true (by simp; exact HP.out) _).mono ?_
      rintro e _ ⟨rfl, rfl⟩
      go_wp2_with fail
      go_ret
      exact ⟨rfl, rfl⟩
    · have hd1 : decide (k < 1) = false := decide_eq_false hk1
      obtain ⟨K, rfl⟩ : ∃ K : Nat, k = K := ⟨k.toNat, by omega⟩
      obtain ⟨N, hN⟩ : ∃ N : Nat, min (K : Int) 15 = N := ⟨min K 15, by omega⟩
      have HQ := Lib.hid (show ¬ pn P N ≤ 20000 from fun hq => by
        have h15 := pn_k h2 hq
        have : N = K := by omega
        subst this
        exact h ⟨P, N, rfl, rfl, hP, by omega, hq⟩)
      have hd4 : decide (K < 1) = false := decide_eq_false (by omega)
      have hn15 : N ≤ 15 := by omega
      clear h hP
      go_enter Try.func16, Try.ntmps16
      go_wp2_with fail
      refine (rPrime_any P true (by simp; exact HP.out) _).mono ?_
      rintro e _ ⟨rfl, rfl⟩
      go_wp2_with fail
      clear hd1 hd4 hN
      go_loop [5, 15] (fun o i => ∃ k : Nat, k ≤ N ∧ i = .int .i64 k ∧ o = .int .i64 (pn P k : Nat) ∧ pn P k ≤ 20000) (fun _ i => N - (intOf i).toNat)
      case atStart => exact ⟨0, by omega, rfl, rfl, by simp [pn]⟩
      case round =>
        obtain ⟨k, hk, rfl, rfl, hb0⟩ := hrel
        by_cases hlt : k < N
        · have HE := Lib.hid (show ((pn P k : Nat) : Int) * (P : Int) = (pn P (k + 1) : Nat) by rw [pn]; simp)
          have hpb := prod_bd hb0 h13
          have hpb1 := hpb.1
          have hpb2 := hpb.2
          clear hpb
          by_cases hle : (20000 : Int) < ((pn P k : Nat) : Int) * (P : Int)
          · have hld : decide ((20000 : Int) < ((pn P k : Nat) : Int) * (P : Int)) = true := decide_eq_true hle
            generalize pn P k = a at *
            go_wp2_with fail
            go_ret
            exact ⟨rfl, rfl⟩
          · have hld : decide ((20000 : Int) < ((pn P k : Nat) : Int) * (P : Int)) = false := decide_eq_false hle
            have HX := Lib.hid (show pn P (k + 1) ≤ 20000 by have := HE.out; omega)
            generalize pn P k = a at *
            go_wp2_with fail
            go_round
            case rel => exact ⟨k + 1, by omega, by go_num, by rw [HE.out], HX.out⟩
            case measure => simp [intOf]; omega
        · obtain rfl : k = N := by omega
          exact absurd hb0 HQ.out
  · have HP := Lib.hid hp
    clear h hp
    go_enter Try.func16, Try.ntmps16
    go_wp2_with fail
    refine (rPrime_any p false (by simp; exact HP.out) _).mono ?_
    rintro e _ ⟨rfl, rfl⟩
    go_wp2_with fail
    go_ret
    exact ⟨rfl, rfl⟩
/-- a polynomial that may be asked for -/
def Poly (l : List Int) : Prop := (∀ k, k < l.length → -1000 ≤ l.getD k 0 ∧ l.getD k 0 ≤ 1000) ∧ 2 ≤ l.length ∧ l.length ≤ 7 ∧ l.getD (l.length - 1) 0 ≠ 0
theorem Poly.take {l : List Int} : Poly (l.take 9) ↔ Poly l := by
  by_cases h : l.length ≤ 9
  · rw [List.take_of_length_le h]
  · constructor
    · intro h2; have := h2.2.2.1; rw [List.length_take] at this; omega
    · intro h2; have := h2.2.2.1; omega
theorem min_ge (l : List Int) (_ : 0 < l.length) (c : Int) : ∀ k, 1 ≤ k → k ≤ l.length → (c ≤ Lib.minOf (l.take k) ↔ ∀ j, j < k → c ≤ l.getD j 0) := by
  intro k
  induction k with
  | zero => intro h; omega
  | succ k ih =>
    intro _ hk
    rcases Nat.eq_zero_or_pos k with rfl | hk1
    · rw [Lib.minOf_one]
      exact ⟨fun h j hj => by obtain rfl : j = 0 := by omega
                              exact h, fun h => h 0 (by omega)⟩
    · rw [Lib.minOf_step l k hk1 (by omega)]
      have := ih hk1 (by omega)
      constructor
      · intro h j hj
        by_cases e : j < k
        · exact this.1 (by omega) j e
        · obtain rfl : j = k := by omega
          omega
      · intro h
        have a := this.2 (fun j hj => h j (by omega))
        have b := h k (by omega)
        omega
theorem max_le (l : List Int) (_ : 0 < l.length) (c : Int) : ∀ k, 1 ≤ k → k ≤ l.length → (Lib.maxOf (l.take k) ≤ c ↔ ∀ j, j < k → l.getD j 0 ≤ c) := by
  intro k
  induction k with
  | zero => intro h; omega
  | succ k ih =>
    intro _ hk
    rcases Nat.eq_zero_or_pos k with rfl | hk1
    · rw [Lib.maxOf_one]
      exact ⟨fun h j hj => by obtain rfl : j = 0 := by omega
                              exact h, fun h => h 0 (by omega)⟩
    · rw [Lib.maxOf_step l k hk1 (by omega)]
      have := ih hk1 (by omega)
      constructor
      · intro h j hj
        by_cases e : j < k
        · exact this.1 (by omega) j e
        · obtain rfl : j = k := by omega
          omega
      · intro h
        have a := this.2 (fun j hj => h j (by omega))
        have b := h k (by omega)
        omega
theorem min_own (base g n cap : Nat) (xs : List Int) (w : World) (h : Own w base (.slice (some ⟨g, 0, none⟩) n cap) xs) (h0 : 0 < n) :
    Calls Try.prog 70 #[.slice (some ⟨g, 0, none⟩) n cap] w fun e w' => e = .returned (.int .i64 (Lib.minOf xs)) ∧ w = w' := by
  obtain ⟨hn, hc, hm, _, _⟩ := h.nums
  subst hn
  have hcon := AnyG.slices_Min_int l70 g 0 xs.length cap xs w h0 (Nat.le_refl _) (by omega) (fun j hj => by
    have := (h.holds j (by simpa using hj)).1
    rw [this]
    simp [hj])
  change Calls Try.prog 70 _ _ _ at hcon
  refine hcon.mono ?_
  rintro e w' ⟨rfl, rfl⟩
  exact ⟨by rw [List.take_length], rfl⟩
theorem max_own (base g n cap : Nat) (xs : List Int) (w : World) (h : Own w base (.slice (some ⟨g, 0, none⟩) n cap) xs) (h0 : 0 < n) :
    Calls Try.prog 71 #[.slice (some ⟨g, 0, none⟩) n cap] w fun e w' => e = .returned (.int .i64 (Lib.maxOf xs)) ∧ w = w' := by
  obtain ⟨hn, hc, hm, _, _⟩ := h.nums
  subst hn
  have hcon := AnyG.slices_Max_int l71 g 0 xs.length cap xs w h0 (Nat.le_refl _) (by omega) (fun j hj => by
    have := (h.holds j (by simpa using hj)).1
    rw [this]
    simp [hj])
  change Calls Try.prog 71 _ _ _ at hcon
  refine hcon.mono ?_
  rintro e w' ⟨rfl, rfl⟩
  exact ⟨by rw [List.take_length], rfl⟩
set_option maxHeartbeats 4000000 in
theorem valid_any (base : Nat) (v : Value) (l : List Int) (r : Bool) (hr : r = true ↔ Poly l) (w : World) (hv : Own w base v l) :
    Calls Try.prog 53 #[v] w fun e w' => e = .returned (.bool r) ∧ w = w' := by
  have HV := Lib.hid hv
  have HR := Lib.hid hr
  obtain ⟨A, n, c, rfl⟩ := hv.isSlice
  have hn : n = l.length := by
    rcases hv.parts with ⟨h1, h2⟩ | ⟨g, n', cap, h1⟩
    · subst h2; simp only [Value.slice.injEq] at h1; simpa using h1.2.1
    · simp only [Value.slice.injEq] at h1
      obtain ⟨rfl, rfl, rfl⟩ := h1
      exact hv.nums.1
  subst hn
  clear hr
  by_cases h1 : l.length < 2
  · obtain rfl : r = false := by cases r; rfl; exact absurd (HR.out.1 rfl).2.1 (by omega)
    have d1 : decide (2 ≤ l.length) = false := decide_eq_false (by omega)
    have d2 : decide ((2 : Int) ≤ l.length) = false := decide_eq_false (by omega)
    clear hv
    go_enter Try.func53, Try.ntmps53
    go_wp2_with fail
    go_ret
    exact ⟨rfl, rfl⟩
  · have d1 : decide (2 ≤ l.length) = true := decide_eq_true (by omega)
    have d2 : decide ((2 : Int) ≤ l.length) = true := decide_eq_true (by omega)
    by_cases h2 : 7 < l.length
    · obtain rfl : r = false := by cases r; rfl; exact absurd (HR.out.1 rfl).2.2.1 (by omega)
      have d3 : decide (l.length ≤ 7) = false := decide_eq_false (by omega)
      have d4 : decide ((l.length : Int) ≤ 7) = false := decide_eq_false (by omega)
      clear hv
      go_enter Try.func53, Try.ntmps53
      go_wp2_with fail
      go_ret
      exact ⟨rfl, rfl⟩
    · have d3 : decide (l.length ≤ 7) = true := decide_eq_true (by omega)
      have d4 : decide ((l.length : Int) ≤ 7) = true := decide_eq_true (by omega)
      obtain ⟨g, cap, hA, hcap, hg1, hg2, hcells⟩ := hv.seen (by omega)
      simp only [Value.slice.injEq, true_and] at hA
      obtain ⟨rfl, rfl⟩ := hA
      have hcx := hcells (l.length - 1) _ (getD_get l (l.length - 1) (by omega))
      have hkt : ((l.length : Int) - 1).toNat = l.length - 1 := by omega
      have HMIN := Lib.hid (min_ge l (by omega) (-1000) l.length (by omega) (Nat.le_refl _))
      have HMAX := Lib.hid (max_le l (by omega) 1000 l.length (by omega) (Nat.le_refl _))
      rw [List.take_length] at HMIN HMAX
      clear hv hcells
      by_cases h3 : -1000 ≤ Lib.minOf l
      · have d5 : decide (-1000 ≤ Lib.minOf l) = true := decide_eq_true h3
        by_cases h4 : Lib.maxOf l ≤ 1000
        · have d6 : decide (Lib.maxOf l ≤ 1000) = true := decide_eq_true h4
          have HA := Lib.hid (HMIN.out.1 h3)
          have HB := Lib.hid (HMAX.out.1 h4)
          by_cases h5 : l.getD (l.length - 1) 0 = 0
          · obtain rfl : r = false := by cases r; rfl; exact absurd h5 (HR.out.1 rfl).2.2.2
            rw [h5] at hcx
            clear h5 h3 h4
            go_enter Try.func53, Try.ntmps53
            go_wp2_with fail
            refine (min_own base g l.length _ l _ HV.out (by omega)).mono ?_
            rintro e _ ⟨rfl, rfl⟩
            go_wp2_with fail
            refine (max_own base g l.length _ l _ HV.out (by omega)).mono ?_
            rintro e _ ⟨rfl, rfl⟩
            go_wp2_with fail
            go_ret
            exact ⟨rfl, rfl⟩
          · obtain rfl : r = true := HR.out.2 ⟨fun k hk => ⟨HA.out k hk, HB.out k hk⟩, by omega, by omega, h5⟩
            have h6 : (l.getD (l.length - 1) 0 != 0) = true := by rw [bne_iff_ne]; exact h5
            clear h3 h4
            generalize l.getD (l.length - 1) 0 = y at *
            go_enter Try.func53, Try.ntmps53
            go_wp2_with fail
            refine (min_own base g l.length _ l _ HV.out (by omega)).mono ?_
            rintro e _ ⟨rfl, rfl⟩
            go_wp2_with fail
            refine (max_own base g l.length _ l _ HV.out (by omega)).mono ?_
            rintro e _ ⟨rfl, rfl⟩
            go_wp2_with fail
            go_ret
            exact ⟨rfl, rfl⟩
        · obtain rfl : r = false := by cases r; rfl; exact absurd (HMAX.out.2 (fun k hk => ((HR.out.1 rfl).1 k hk).2)) h4
          have d6 : decide (Lib.maxOf l ≤ 1000) = false := decide_eq_false h4
          clear h3 h4
          go_enter Try.func53, Try.ntmps53
          go_wp2_with fail
          refine (min_own base g l.length _ l _ HV.out (by omega)).mono ?_
          rintro e _ ⟨rfl, rfl⟩
          go_wp2_with fail
          refine (max_own base g l.length _ l _ HV.out (by omega)).mono ?_
          rintro e _ ⟨rfl, rfl⟩
          go_wp2_with fail
          go_ret
          exact ⟨rfl, rfl⟩
      · obtain rfl : r = false := by cases r; rfl; exact absurd (HMIN.out.2 (fun k hk => ((HR.out.1 rfl).1 k hk).1)) h3
        have d5 : decide (-1000 ≤ Lib.minOf l) = false := decide_eq_false h3
        clear h3
        go_enter Try.func53, Try.ntmps53
        go_wp2_with fail
        refine (min_own base g l.length _ l _ HV.out (by omega)).mono ?_
        rintro e _ ⟨rfl, rfl⟩
        go_wp2_with fail
        go_ret
        exact ⟨rfl, rfl⟩
theorem poly_next {l : List Int} {k : Nat} (h : ∀ j, j < k → -1000 ≤ l.getD j 0 ∧ l.getD j 0 ≤ 1000) (h2 : -1000 ≤ l.getD k 0 ∧ l.getD k 0 ≤ 1000) : ∀ j, j < k + 1 → -1000 ≤ l.getD j 0 ∧ l.getD j 0 ≤ 1000 := by
  intro j hj
  by_cases e : j < k
  · exact h j e
  · obtain rfl : j = k := by omega
    exact h2
set_option maxHeartbeats 4000000 in
theorem rPoly_any (v : Value) (l : List Int) (r : Bool) (hr : r = true ↔ Poly l) (w : World) (hv : Ints w v l) :
    Calls Try.prog 26 #[v] w fun e w' => e = .returned (.bool r) ∧ w = w' := by
  have HR := Lib.hid hr
  obtain ⟨hlen, A, c, rfl, hc, hcr⟩ := hv
  have HCR := Lib.hid hcr
  clear hcr hr
  go_enter Try.func26, Try.ntmps26
  go_wp2_with fail
  go_loop [7] (fun i => ∃ k : Nat, k ≤ l.length ∧ i = .int .i64 k ∧ ∀ j, j < k → -1000 ≤ l.getD j 0 ∧ l.getD j 0 ≤ 1000) (fun i => l.length - (intOf i).toNat)
  case atStart => exact ⟨0, by omega, rfl, fun j hj => by omega⟩
  case round =>
    obtain ⟨k, hk, rfl, hall⟩ := hrel
    have HALL := Lib.hid hall
    clear hall
    by_cases hlt : k < l.length
    · obtain ⟨ad, rfl, hbl, hcell⟩ := HCR.out (by omega)
      have hcx := hcell k _ (getD_get l k hlt)
      clear hcell
      have HN := Lib.hid (fun h2 => poly_next HALL.out (h2 : -1000 ≤ l.getD k 0 ∧ l.getD k 0 ≤ 1000))
      have HB := Lib.hid (fun h : Poly l => h.1 k hlt)
      generalize l.getD k 0 = x at *
      by_cases h1 : x < -1000
      · obtain rfl : r = false := by cases r; rfl; have := HB.out (HR.out.1 rfl); omega
        have d1 : decide (x < -1000) = true := decide_eq_true h1
        go_wp2_with fail
        go_ret
        exact ⟨rfl, rfl⟩
      · have d1 : decide (x < -1000) = false := decide_eq_false h1
        by_cases h2 : 1000 < x
        · obtain rfl : r = false := by cases r; rfl; have := HB.out (HR.out.1 rfl); omega
          have d2 : decide (1000 < x) = true := decide_eq_true h2
          go_wp2_with fail
          go_ret
          exact ⟨rfl, rfl⟩
        · have d2 : decide (1000 < x) = false := decide_eq_false h2
          have HN2 := Lib.hid (HN.out ⟨by omega, by omega⟩)
          go_wp2_with fail
          go_round
          case rel => exact ⟨k + 1, by omega, by go_num, HN2.out⟩
          case measure => simp [intOf]; omega
    · obtain rfl : k = l.length := by omega
      by_cases h1 : l.length < 2
      · obtain rfl : r = false := by cases r; rfl; exact absurd (HR.out.1 rfl).2.1 (by omega)
        have d1 : decide (2 ≤ l.length) = false := decide_eq_false (by omega)
        have d2 : decide ((2 : Int) ≤ l.length) = false := decide_eq_false (by omega)
        go_wp2_with fail
        go_ret
        exact ⟨rfl, rfl⟩
      · have d1 : decide (2 ≤ l.length) = true := decide_eq_true (by omega)
        have d2 : decide ((2 : Int) ≤ l.length) = true := decide_eq_true (by omega)
        by_cases h2 : 7 < l.length
        · obtain rfl : r = false := by cases r; rfl; exact absurd (HR.out.1 rfl).2.2.1 (by omega)
          have d3 : decide (l.length ≤ 7) = false := decide_eq_false (by omega)
          have d4 : decide ((l.length : Int) ≤ 7) = false := decide_eq_false (by omega)
          go_wp2_with fail
          go_ret
          exact ⟨rfl, rfl⟩
        · have d3 : decide (l.length ≤ 7) = true := decide_eq_true (by omega)
          have d4 : decide ((l.length : Int) ≤ 7) = true := decide_eq_true (by omega)
          obtain ⟨ad, rfl, hbl, hcell⟩ := HCR.out (by omega)
          have hcx := hcell (l.length - 1) _ (getD_get l (l.length - 1) (by omega))
          have hkt : ((l.length : Int) - 1).toNat = l.length - 1 := by omega
          clear hcell
          by_cases h5 : l.getD (l.length - 1) 0 = 0
          · obtain rfl : r = false := by cases r; rfl; exact absurd h5 (HR.out.1 rfl).2.2.2
            rw [h5] at hcx
            clear h5
            go_wp2_with fail
            go_ret
            exact ⟨rfl, rfl⟩
          · obtain rfl : r = true := HR.out.2 ⟨HALL.out, by omega, by omega, h5⟩
            have h6 : (l.getD (l.length - 1) 0 != 0) = true := by rw [bne_iff_ne]; exact h5
            generalize l.getD (l.length - 1) 0 = y at *
            go_wp2_with fail
            go_ret
            exact ⟨rfl, rfl⟩
end Go.Proofs.Ytdkobkghhnccgaa
