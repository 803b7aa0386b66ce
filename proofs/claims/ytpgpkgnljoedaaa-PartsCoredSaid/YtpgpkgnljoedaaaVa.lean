/- Partitions; walks of valid, sum, at, Valid, Sum, Different. -/
import Derived.Test.YtpgpkgnljoedaaaLi
namespace Go.Proofs.Ytpgpkgnljoedaaa
open Go.RowKit

theorem getD_get (q : List Int) (k : Nat) (h : k < q.length) : q[k]? = some (q.getD k 0) := by
  simp [List.getD, List.getElem?_eq_getElem h]
theorem take_sum (l : List Int) (k : Nat) (h : k < l.length) : (l.take (k + 1)).sum = (l.take k).sum + l.getD k 0 := by
  rw [List.take_succ_eq_append_getElem h, List.sum_append]
  simp [List.getD, List.getElem?_eq_getElem h]
/-- place k of a partition is allowed -/
def Ok1 (l : List Int) (k : Nat) : Prop := 1 ≤ l.getD k 0 ∧ l.getD k 0 ≤ 30 ∧ (1 ≤ k → l.getD k 0 ≤ l.getD (k - 1) 0)
theorem ok1_zero {l : List Int} {x : Int} (hx : l.getD 0 0 = x) : Ok1 l 0 ↔ 1 ≤ x ∧ x ≤ 30 := by
  unfold Ok1; rw [hx]; constructor
  · rintro ⟨h1, h2, _⟩; exact ⟨h1, h2⟩
  · rintro ⟨h1, h2⟩; exact ⟨h1, h2, fun h => by omega⟩
theorem ok1_succ {l : List Int} {k : Nat} (h : 1 ≤ k) {x y : Int} (hx : l.getD k 0 = x) (hy : l.getD (k - 1) 0 = y) : Ok1 l k ↔ 1 ≤ x ∧ x ≤ 30 ∧ x ≤ y := by
  unfold Ok1; rw [hx, hy]; constructor
  · rintro ⟨h1, h2, h3⟩; exact ⟨h1, h2, h3 h⟩
  · rintro ⟨h1, h2, h3⟩; exact ⟨h1, h2, fun _ => h3⟩
theorem okAll_next {l : List Int} {k : Nat} (h : ∀ j, j < k → Ok1 l j) (h2 : Ok1 l k) : ∀ j, j < k + 1 → Ok1 l j := by
  intro j hj
  by_cases e : j = k
  · subst e; exact h2
  · exact h j (by omega)
/-- a partition of a number up to 30 -/
def Part (l : List Int) : Prop := (∀ k, k < l.length → Ok1 l k) ∧ l.sum ≤ 30
theorem sum_len (l : List Int) (h : ∀ k, k < l.length → Ok1 l k) : ∀ k, k ≤ l.length → (k : Int) ≤ (l.take k).sum ∧ (l.take k).sum ≤ 30 * k := by
  intro k
  induction k with
  | zero => intro _; simp
  | succ k ih =>
    intro hk
    have h1 := ih (by omega)
    have h2 := h k (by omega)
    rw [take_sum l k (by omega)]
    obtain ⟨a, b, _⟩ := h2
    omega
theorem sum_mono (l : List Int) (h : ∀ k, k < l.length → Ok1 l k) (k : Nat) (hk : k ≤ l.length) : ∀ m, k ≤ m → m ≤ l.length → (l.take k).sum ≤ (l.take m).sum := by
  intro m
  induction m with
  | zero => intro h1 _; obtain rfl : k = 0 := by omega
            exact Int.le_refl _
  | succ m ih =>
    intro h1 h2
    by_cases e : k = m + 1
    · subst e; exact Int.le_refl _
    · have := ih (by omega) (by omega)
      have := (h m (by omega)).1
      rw [take_sum l m (by omega)]
      omega
theorem Part.len {l : List Int} (h : Part l) : l.length ≤ 30 := by
  have := (sum_len l h.1 l.length (Nat.le_refl _)).1
  rw [List.take_length] at this
  have := h.2
  omega
theorem Part.sum0 {l : List Int} (h : Part l) : 0 ≤ l.sum := by
  have := (sum_len l h.1 l.length (Nat.le_refl _)).1
  rw [List.take_length] at this
  omega
theorem Part.at {l : List Int} (h : Part l) (k : Nat) (hk : k < l.length) : 1 ≤ l.getD k 0 ∧ l.getD k 0 ≤ 30 := ⟨(h.1 k hk).1, (h.1 k hk).2.1⟩
theorem Part.take34 {l : List Int} (h : Part l) : l.take 34 = l := List.take_of_length_le (by have := h.len; omega)
theorem part_take {l : List Int} (h : ¬ Part l) : ¬ Part (l.take 34) := by
  intro h2
  by_cases hl : l.length ≤ 34
  · rw [List.take_of_length_le hl] at h2; exact h h2
  · have := h2.len
    rw [List.length_take] at this
    omega

set_option maxHeartbeats 1000000 in
theorem sum_any (v : Value) (l : List Int) (h : ∀ k, k < l.length → Ok1 l k) (hl : l.length ≤ 34) (w : World) (hv : Ints w v l) :
    Calls Try.prog 75 #[v] w fun e w' => e = .returned (.int .i64 l.sum) ∧ w = w' := by
  obtain ⟨hlen, A, c, rfl, hc, hr⟩ := hv
  have HR := Lib.hid hr
  have HS := Lib.hid (sum_len l h)
  have HO := Lib.hid h
  clear hr h
  go_enter Try.func75, Try.ntmps75
  go_wp2_with fail
  go_loop [3, 8] (fun s i => ∃ k : Nat, k ≤ l.length ∧ i = .int .i64 k ∧ s = .int .i64 (l.take k).sum) (fun _ i => l.length - (intOf i).toNat)
  case atStart => exact ⟨0, Nat.zero_le _, rfl, by simp⟩
  case round =>
    obtain ⟨k, hk, rfl, rfl⟩ := hrel
    by_cases hlt : k < l.length
    · obtain ⟨ad, rfl, hbl, hcell⟩ := HR.out (by omega)
      have hck := hcell k _ (getD_get l k hlt)
      have HT := Lib.hid (take_sum l k hlt)
      obtain ⟨b1, b2⟩ := HS.out k hk
      obtain ⟨a1, a2, _⟩ := HO.out k hlt
      generalize (l.take k).sum = s at *
      generalize l.getD k 0 = x at *
      clear hcell
      go_wp2_with fail
      go_round
      case rel => exact ⟨k + 1, by omega, by go_num, by rw [HT.out]⟩
      case measure => simp [intOf]; omega
    · obtain rfl : k = l.length := by omega
      rw [List.take_length]
      clear HR
      go_wp2_with fail
      go_ret
      exact ⟨rfl, rfl⟩

set_option maxHeartbeats 1000000 in
theorem rSum_any (v : Value) (l : List Int) (h : ∀ k, k < l.length → Ok1 l k) (hl : l.length ≤ 34) (w : World) (hv : Ints w v l) :
    Calls Try.prog 41 #[v] w fun e w' => e = .returned (.int .i64 l.sum) ∧ w = w' := by
  obtain ⟨hlen, A, c, rfl, hc, hr⟩ := hv
  have HR := Lib.hid hr
  have HS := Lib.hid (sum_len l h)
  have HO := Lib.hid h
  clear hr h
  go_enter Try.func41, Try.ntmps41
  go_wp2_with fail
  go_loop [3, 8] (fun s i => ∃ k : Nat, k ≤ l.length ∧ i = .int .i64 k ∧ s = .int .i64 (l.take k).sum) (fun _ i => l.length - (intOf i).toNat)
  case atStart => exact ⟨0, Nat.zero_le _, rfl, by simp⟩
  case round =>
    obtain ⟨k, hk, rfl, rfl⟩ := hrel
    by_cases hlt : k < l.length
    · obtain ⟨ad, rfl, hbl, hcell⟩ := HR.out (by omega)
      have hck := hcell k _ (getD_get l k hlt)
      have HT := Lib.hid (take_sum l k hlt)
      obtain ⟨b1, b2⟩ := HS.out k hk
      obtain ⟨a1, a2, _⟩ := HO.out k hlt
      generalize (l.take k).sum = s at *
      generalize l.getD k 0 = x at *
      clear hcell
      go_wp2_with fail
      go_round
      case rel => exact ⟨k + 1, by omega, by go_num, by rw [HT.out]⟩
      case measure => simp [intOf]; omega
    · obtain rfl : k = l.length := by omega
      rw [List.take_length]
      clear HR
      go_wp2_with fail
      go_ret
      exact ⟨rfl, rfl⟩

set_option maxRecDepth 100000 in
set_option maxHeartbeats 4000000 in
theorem valid_any (v : Value) (l : List Int) (r : Bool) (hr : r = true ↔ Part l) (w : World) (hv : Ints w v l) :
    Calls Try.prog 63 #[v] w fun e w' => e = .returned (.bool r) ∧ w = w' := by
  have HV := Lib.hid hv
  obtain ⟨hlen, A, c, rfl, hc, hcr⟩ := hv
  have HCR := Lib.hid hcr
  have HR := Lib.hid hr
  clear hcr hr
  by_cases hl30 : 30 < l.length
  · have d0 : decide ((30 : Int) < l.length) = true := decide_eq_true (by omega)
    have d0' : decide (30 < l.length) = true := decide_eq_true hl30
    have hrf : r = false := by
      cases r
      · rfl
      · exact absurd (HR.out.1 rfl).len (by omega)
    subst hrf
    clear HR HCR
    go_enter Try.func63, Try.ntmps63
    go_wp2_with fail
    go_ret
    exact ⟨rfl, rfl⟩
  have d0 : decide ((30 : Int) < l.length) = false := decide_eq_false (by omega)
  have d0' : decide (30 < l.length) = false := decide_eq_false hl30
  go_enter Try.func63, Try.ntmps63
  go_wp2_with fail
  go_loop [10] (fun i => ∃ k : Nat, k ≤ l.length ∧ i = .int .i64 k ∧ (∀ j, j < k → Ok1 l j)) (fun i => l.length - (intOf i).toNat)
  case atStart => exact ⟨0, Nat.zero_le _, rfl, fun j hj => by omega⟩
  case round =>
    obtain ⟨k, hk, rfl, hall⟩ := hrel
    have HALL := Lib.hid hall
    clear hall
    by_cases hlt : k < l.length
    · obtain ⟨ad, rfl, hbl, hcell⟩ := HCR.out (by omega)
      have HC := Lib.hid hcell
      clear hcell
      have hcx := HC.out k _ (getD_get l k hlt)
      have hbad : ¬ Ok1 l k → false = r := by
        intro hno
        cases r
        · rfl
        · exact absurd ((HR.out.1 rfl).1 k hlt) hno
      have HBAD := Lib.hid hbad
      clear hbad
      rcases Nat.eq_zero_or_pos k with rfl | hk1
      · have hz := ok1_zero (l := l) rfl
        have hcx' : w.cell? ad = some (.int .i64 (l.getD 0 0)) := hcx
        have HZ := Lib.hid hz
        clear hz
        generalize l.getD 0 0 = x at *
        by_cases h1 : x < 1
        · have e1 : decide (x < 1) = true := decide_eq_true h1
          have HF := Lib.hid (HBAD.out (fun o => by have := HZ.out.1 o; omega))
          go_wp2_with fail
          go_ret
          exact ⟨by rw [← HF.out]; rfl, rfl⟩
        · have e1 : decide (x < 1) = false := decide_eq_false h1
          by_cases h2 : 30 < x
          · have e2 : decide (30 < x) = true := decide_eq_true h2
            have HF := Lib.hid (HBAD.out (fun o => by have := HZ.out.1 o; omega))
            go_wp2_with fail
            go_ret
            exact ⟨by rw [← HF.out]; rfl, rfl⟩
          · have e2 : decide (30 < x) = false := decide_eq_false h2
            go_wp2_with fail
            go_round
            case rel => exact ⟨1, by omega, by go_num, okAll_next HALL.out (HZ.out.2 ⟨by omega, by omega⟩)⟩
            case measure => simp [intOf]; omega
      · have hz := ok1_succ (l := l) hk1 rfl rfl
        have hpx := HC.out (k - 1) _ (getD_get l (k - 1) (by omega))
        have hkt : ((k : Int) - 1).toNat = k - 1 := by omega
        have HZ := Lib.hid hz
        clear hz
        generalize l.getD k 0 = x at *
        generalize l.getD (k - 1) 0 = y at *
        have k1 : decide (0 < k) = true := decide_eq_true (by omega)
        have k1' : decide (0 < (k : Int)) = true := decide_eq_true (by omega)
        by_cases h1 : x < 1
        · have e1 : decide (x < 1) = true := decide_eq_true h1
          have HF := Lib.hid (HBAD.out (fun o => by have := HZ.out.1 o; omega))
          go_wp2_with fail
          go_ret
          exact ⟨by rw [← HF.out]; rfl, rfl⟩
        · have e1 : decide (x < 1) = false := decide_eq_false h1
          by_cases h2 : 30 < x
          · have e2 : decide (30 < x) = true := decide_eq_true h2
            have HF := Lib.hid (HBAD.out (fun o => by have := HZ.out.1 o; omega))
            go_wp2_with fail
            go_ret
            exact ⟨by rw [← HF.out]; rfl, rfl⟩
          · have e2 : decide (30 < x) = false := decide_eq_false h2
            by_cases h3 : y < x
            · have e3 : decide (y < x) = true := decide_eq_true h3
              have HF := Lib.hid (HBAD.out (fun o => by have := HZ.out.1 o; omega))
              go_wp2_with fail
              go_ret
              exact ⟨by rw [← HF.out]; rfl, rfl⟩
            · have e3 : decide (y < x) = false := decide_eq_false h3
              go_wp2_with fail
              go_round
              case rel => exact ⟨k + 1, by omega, by go_num, okAll_next HALL.out (HZ.out.2 ⟨by omega, by omega, by omega⟩)⟩
              case measure => simp [intOf]; omega
    · obtain rfl : k = l.length := by omega
      clear HCR
      go_wp2_with fail
      refine (sum_any _ l HALL.out (by omega) _ HV.out).mono ?_
      rintro e _ ⟨rfl, rfl⟩
      by_cases hs : l.sum ≤ 30
      · have es : decide (l.sum ≤ 30) = true := decide_eq_true hs
        have HF := Lib.hid (HR.out.2 ⟨HALL.out, hs⟩)
        go_wp2_with fail
        go_ret
        exact ⟨by rw [HF.out]; rfl, rfl⟩
      · have es : decide (l.sum ≤ 30) = false := decide_eq_false hs
        have hrf : r = false := by
          cases r
          · rfl
          · exact absurd (HR.out.1 rfl).2 hs
        have HF := Lib.hid hrf
        clear hrf
        go_wp2_with fail
        go_ret
        exact ⟨by rw [HF.out]; rfl, rfl⟩

set_option maxRecDepth 100000 in
set_option maxHeartbeats 4000000 in
theorem rValid_any (v : Value) (l : List Int) (r : Bool) (hr : r = true ↔ Part l) (w : World) (hv : Ints w v l) :
    Calls Try.prog 26 #[v] w fun e w' => e = .returned (.bool r) ∧ w = w' := by
  have HV := Lib.hid hv
  obtain ⟨hlen, A, c, rfl, hc, hcr⟩ := hv
  have HCR := Lib.hid hcr
  have HR := Lib.hid hr
  clear hcr hr
  go_enter Try.func26, Try.ntmps26
  go_wp2_with fail
  go_loop [3, 8] (fun s i => ∃ k : Nat, k ≤ l.length ∧ i = .int .i64 k ∧ (∀ j, j < k → Ok1 l j) ∧ (l.take k).sum ≤ 30 ∧ s = .int .i64 (l.take k).sum) (fun _ i => l.length - (intOf i).toNat)
  case atStart => exact ⟨0, Nat.zero_le _, rfl, fun j hj => by omega, by simp, by simp⟩
  case round =>
    obtain ⟨k, hk, rfl, hall, hs30, rfl⟩ := hrel
    have HALL := Lib.hid hall
    clear hall
    by_cases hlt : k < l.length
    · obtain ⟨ad, rfl, hbl, hcell⟩ := HCR.out (by omega)
      have HC := Lib.hid hcell
      clear hcell
      have hcx := HC.out k _ (getD_get l k hlt)
      have HT := Lib.hid (take_sum l k hlt)
      have hs0 : 0 ≤ (l.take k).sum := by
        have := (sum_len (l.take k) (fun j hj => by
          rw [List.length_take] at hj
          have h1 := HALL.out j (by omega)
          unfold Ok1 at h1 ⊢
          rw [show (l.take k).getD j 0 = l.getD j 0 by simp [List.getD, show j < k by omega]]
          refine ⟨h1.1, h1.2.1, fun h => ?_⟩
          rw [show (l.take k).getD (j - 1) 0 = l.getD (j - 1) 0 by simp [List.getD, show j - 1 < k by omega]]
          exact h1.2.2 h) (l.take k).length (Nat.le_refl _)).1
        rw [List.take_length] at this
        omega
      have hbad : ¬ Ok1 l k → false = r := by
        intro hno
        cases r
        · rfl
        · exact absurd ((HR.out.1 rfl).1 k hlt) hno
      have HBAD := Lib.hid hbad
      clear hbad
      have hbig : Ok1 l k → 30 < (l.take (k + 1)).sum → false = r := by
        intro hok hbig
        cases r
        · rfl
        · have hp := HR.out.1 rfl
          have h1 := sum_mono l hp.1 (k + 1) (by omega) l.length (by omega) (Nat.le_refl _)
          rw [List.take_length] at h1
          have := hp.2
          omega
      rw [HT.out] at hbig
      have HBIG := Lib.hid hbig
      clear hbig
      generalize hsum : (l.take k).sum = s at *
      clear hsum
      rcases Nat.eq_zero_or_pos k with rfl | hk1
      · have hz := ok1_zero (l := l) rfl
        have hcx' : w.cell? ad = some (.int .i64 (l.getD 0 0)) := hcx
        have HZ := Lib.hid hz
        clear hz
        generalize l.getD 0 0 = x at *
        by_cases h1 : x < 1
        · have e1 : decide (x < 1) = true := decide_eq_true h1
          have HF := Lib.hid (HBAD.out (fun o => by have := HZ.out.1 o; omega))
          go_wp2_with fail
          go_ret
          exact ⟨by rw [← HF.out]; rfl, rfl⟩
        · have e1 : decide (x < 1) = false := decide_eq_false h1
          by_cases h2 : 30 < x
          · have e2 : decide (30 < x) = true := decide_eq_true h2
            have HF := Lib.hid (HBAD.out (fun o => by have := HZ.out.1 o; omega))
            go_wp2_with fail
            go_ret
            exact ⟨by rw [← HF.out]; rfl, rfl⟩
          · have e2 : decide (30 < x) = false := decide_eq_false h2
            have HOK := Lib.hid (HZ.out.2 ⟨by omega, by omega⟩)
            by_cases hb : 30 < s + x
            · have e9 : decide (30 < s + x) = true := decide_eq_true hb
              have HF := Lib.hid (HBIG.out HOK.out hb)
              go_wp2_with fail
              go_ret
              exact ⟨by rw [← HF.out]; rfl, rfl⟩
            · have e9 : decide (30 < s + x) = false := decide_eq_false hb
              go_wp2_with fail
              go_round
              case rel => exact ⟨1, by omega, by go_num, okAll_next HALL.out HOK.out, by rw [HT.out]; omega, by rw [HT.out]⟩
              case measure => simp [intOf]; omega
      · have hz := ok1_succ (l := l) hk1 rfl rfl
        have hpx := HC.out (k - 1) _ (getD_get l (k - 1) (by omega))
        have hkt : ((k : Int) - 1).toNat = k - 1 := by omega
        have HZ := Lib.hid hz
        clear hz
        generalize l.getD k 0 = x at *
        generalize l.getD (k - 1) 0 = y at *
        have k1 : decide (0 < k) = true := decide_eq_true (by omega)
        have k1' : decide (0 < (k : Int)) = true := decide_eq_true (by omega)
        by_cases h1 : x < 1
        · have e1 : decide (x < 1) = true := decide_eq_true h1
          have HF := Lib.hid (HBAD.out (fun o => by have := HZ.out.1 o; omega))
          go_wp2_with fail
          go_ret
          exact ⟨by rw [← HF.out]; rfl, rfl⟩
        · have e1 : decide (x < 1) = false := decide_eq_false h1
          by_cases h2 : 30 < x
          · have e2 : decide (30 < x) = true := decide_eq_true h2
            have HF := Lib.hid (HBAD.out (fun o => by have := HZ.out.1 o; omega))
            go_wp2_with fail
            go_ret
            exact ⟨by rw [← HF.out]; rfl, rfl⟩
          · have e2 : decide (30 < x) = false := decide_eq_false h2
            by_cases h3 : y < x
            · have e3 : decide (y < x) = true := decide_eq_true h3
              have HF := Lib.hid (HBAD.out (fun o => by have := HZ.out.1 o; omega))
              go_wp2_with fail
              go_ret
              exact ⟨by rw [← HF.out]; rfl, rfl⟩
            · have e3 : decide (y < x) = false := decide_eq_false h3
              have HOK := Lib.hid (HZ.out.2 ⟨by omega, by omega, by omega⟩)
              by_cases hb : 30 < s + x
              · have e9 : decide (30 < s + x) = true := decide_eq_true hb
                have HF := Lib.hid (HBIG.out HOK.out hb)
                go_wp2_with fail
                go_ret
                exact ⟨by rw [← HF.out]; rfl, rfl⟩
              · have e9 : decide (30 < s + x) = false := decide_eq_false hb
                go_wp2_with fail
                go_round
                case rel => exact ⟨k + 1, by omega, by go_num, okAll_next HALL.out HOK.out, by rw [HT.out]; omega, by rw [HT.out]⟩
                case measure => simp [intOf]; omega
    · obtain rfl : k = l.length := by omega
      rw [List.take_length] at hs30 ⊢
      have HF := Lib.hid (HR.out.2 ⟨HALL.out, hs30⟩)
      clear HCR
      go_wp2_with fail
      go_ret
      exact ⟨by rw [HF.out]; rfl, rfl⟩

theorem valid_yes (v : Value) (l : List Int) (h : Part l) (w : World) (hv : Ints w v l) : Calls Try.prog 63 #[v] w fun e w' => e = .returned (.bool true) ∧ w = w' := valid_any v l true (by simp [h]) w hv
theorem valid_no (v : Value) (l : List Int) (h : ¬ Part l) (w : World) (hv : Ints w v l) : Calls Try.prog 63 #[v] w fun e w' => e = .returned (.bool false) ∧ w = w' := valid_any v l false (by simp [h]) w hv
theorem rValid_yes (v : Value) (l : List Int) (h : Part l) (w : World) (hv : Ints w v l) : Calls Try.prog 26 #[v] w fun e w' => e = .returned (.bool true) ∧ w = w' := rValid_any v l true (by simp [h]) w hv
theorem rValid_no (v : Value) (l : List Int) (h : ¬ Part l) (w : World) (hv : Ints w v l) : Calls Try.prog 26 #[v] w fun e w' => e = .returned (.bool false) ∧ w = w' := rValid_any v l false (by simp [h]) w hv
set_option maxHeartbeats 1000000 in
theorem at_any (v : Value) (l : List Int) (k : Nat) (w : World) (hv : Ints w v l) :
    Calls Try.prog 87 #[v, .int .i64 k] w fun e w' => e = .returned (.int .i64 (l.getD k 0)) ∧ w = w' := by
  obtain ⟨hlen, A, c, rfl, hc, hcr⟩ := hv
  by_cases h : k < l.length
  · obtain ⟨ad, rfl, hbl, hcell⟩ := hcr (by omega)
    have hck := hcell k _ (getD_get l k h)
    clear hcr hcell
    generalize l.getD k 0 = x at *
    go_enter Try.func87, Try.ntmps87
    go_wp2_with fail
    go_ret
    exact ⟨rfl, rfl⟩
  · have e : l.getD k 0 = 0 := by simp [List.getD, List.getElem?_eq_none (show l.length ≤ k by omega)]
    have HE := Lib.hid e
    clear hcr e
    go_enter Try.func87, Try.ntmps87
    go_wp2_with fail
    go_ret
    exact ⟨by rw [HE.out]; rfl, rfl⟩
end Go.Proofs.Ytpgpkgnljoedaaa
