/- Walks of Fraction, IsAlong, Along. -/
import Derived.Test.YtiknocjdogbajaaDg
namespace Go.Proofs.Ytiknocjdogbajaa
open Go.RowKit

set_option maxHeartbeats 1000000 in
theorem Digits_badq (v : Value) (q : List Int) (h : ¬ Fr q) (n : Int) (w : World) (hv : Ints w v q) :
    Calls Try.prog 37 #[v, .int .i64 n] w fun e w' => e = .returned (.tuple #[.slice none 0 0, .int .i64 2]) ∧ w = w' := by
  have HF := Lib.hid h
  have HV := Lib.hid hv
  clear h
  obtain ⟨hlen, A, c, rfl, hc, hr⟩ := hv
  clear hr
  go_enter Try.func37, Try.ntmps37
  go_wp2_with fail
  refine (fvalid_no _ q HF.out _ HV.out).mono ?_
  rintro e _ ⟨rfl, rfl⟩
  go_wp2_with fail
  go_ret2
  exact ⟨rfl, rfl⟩
set_option maxHeartbeats 1000000 in
theorem Digits_badn (v : Value) (q : List Int) (h : Fr q) (n : Int) (hn : n < 0 ∨ den q q.length ≤ n) (w : World) (hv : Ints w v q) :
    Calls Try.prog 37 #[v, .int .i64 n] w fun e w' => e = .returned (.tuple #[.slice none 0 0, .int .i64 2]) ∧ Below w.heap.size w w' := by
  have HF := Lib.hid h
  have HV := Lib.hid hv
  clear h
  obtain ⟨hlen, A, c, rfl, hc, hr⟩ := hv
  clear hr
  by_cases h0 : n < 0
  · have d0 : decide (n < 0) = true := decide_eq_true h0
    clear hn
    go_enter Try.func37, Try.ntmps37
    go_wp2_with fail
    refine (fvalid_yes _ q HF.out _ HV.out).mono ?_
    rintro e _ ⟨rfl, rfl⟩
    go_wp2_with fail
    refine (denominators_any _ q HF.out _ HV.out).mono ?_
    rintro e w1 ⟨vd, rfl, hown, hb1⟩
    clear hown
    go_wp2_with fail
    go_ret2
    exact ⟨rfl, hb1⟩
  · have d0 : decide (n < 0) = false := decide_eq_false h0
    have d1 : decide (den q q.length ≤ n) = true := decide_eq_true (by omega)
    clear hn
    go_enter Try.func37, Try.ntmps37
    go_wp2_with fail
    refine (fvalid_yes _ q HF.out _ HV.out).mono ?_
    rintro e _ ⟨rfl, rfl⟩
    go_wp2_with fail
    refine (denominators_any _ q HF.out _ HV.out).mono ?_
    rintro e w1 ⟨vd, rfl, hown, hb1⟩
    have hl := dens_length q (q.length + 1)
    obtain ⟨g, cap, rfl, hcap, hg1, hg2, hcs⟩ := hown.seen (by omega)
    rw [hl] at hcap ⊢
    have hcl := hcs q.length _ (dens_get q _ q.length (by omega))
    clear hown hl hcs
    go_wp2_with fail
    go_ret2
    exact ⟨rfl, hb1⟩

set_option maxHeartbeats 1000000 in
theorem rFrac_yes (v : Value) (q : List Int) (h : Fr q) (w : World) (hv : Ints w v q) :
    Calls Try.prog 39 #[v] w fun e w' => e = .returned (.bool true) ∧ w = w' := by
  have h1 := h.1
  have h10 := h.2.1
  have HA := Lib.hid h.at
  obtain ⟨hlen, A, c, rfl, hc, hr⟩ := hv
  obtain ⟨ad, rfl, hbl, hcell⟩ := hr (by omega)
  have HC := Lib.hid hcell
  clear hr hcell h
  have da : decide (1 ≤ q.length) = true := decide_eq_true h1
  have db : decide ((q.length : Int) ≤ 10) = true := decide_eq_true (by omega)
  go_enter Try.func39, Try.ntmps39
  go_wp2_with fail
  go_loop [7] (fun i => ∃ k : Nat, k ≤ q.length ∧ i = .int .i64 k) (fun i => q.length - (intOf i).toNat)
  case atStart => exact ⟨0, Nat.zero_le _, rfl⟩
  case round =>
    obtain ⟨k, hk, rfl⟩ := hrel
    by_cases hlt : k < q.length
    · have hck := HC.out k _ (getD_get q k hlt)
      obtain ⟨a1, a9⟩ := HA.out k hlt
      generalize q.getD k 0 = a at *
      have e1 : decide (a < 1) = false := decide_eq_false (by omega)
      have e2 : decide (9 < a) = false := decide_eq_false (by omega)
      go_wp2_with fail
      go_round
      case rel => exact ⟨k + 1, by omega, by go_num⟩
      case measure => simp [intOf]; omega
    · obtain rfl : k = q.length := by omega
      go_wp2_with fail
      go_ret
      exact ⟨rfl, rfl⟩
set_option maxHeartbeats 1000000 in
theorem rFrac_no (v : Value) (q : List Int) (h : ¬ Fr q) (w : World) (hv : Ints w v q) :
    Calls Try.prog 39 #[v] w fun e w' => e = .returned (.bool false) ∧ w = w' := by
  have HF := Lib.hid h
  obtain ⟨hlen, A, c, rfl, hc, hr⟩ := hv
  have HR := Lib.hid hr
  clear hr h
  go_enter Try.func39, Try.ntmps39
  go_wp2_with fail
  go_loop [7] (fun i => ∃ k : Nat, k ≤ q.length ∧ i = .int .i64 k ∧ ∀ x ∈ q.take k, 1 ≤ x ∧ x ≤ 9) (fun i => q.length - (intOf i).toNat)
  case atStart => exact ⟨0, Nat.zero_le _, rfl, by simp⟩
  case round =>
    obtain ⟨k, hk, rfl, hall⟩ := hrel
    have HALL := Lib.hid hall
    clear hall
    by_cases hlt : k < q.length
    · obtain ⟨ad, rfl, hbl, hcell⟩ := HR.out (by omega)
      have hck := hcell k q[k] (List.getElem?_eq_getElem hlt)
      have HT := Lib.hid (List.take_succ_eq_append_getElem hlt)
      clear hcell
      generalize q[k] = a at *
      by_cases h1 : a < 1
      · have e1 : decide (a < 1) = true := decide_eq_true h1
        go_wp2_with fail
        go_ret
        exact ⟨rfl, rfl⟩
      · have e1 : decide (a < 1) = false := decide_eq_false h1
        by_cases h9 : 9 < a
        · have e2 : decide (9 < a) = true := decide_eq_true h9
          go_wp2_with fail
          go_ret
          exact ⟨rfl, rfl⟩
        · have e2 : decide (9 < a) = false := decide_eq_false h9
          go_wp2_with fail
          go_round
          case rel =>
            refine ⟨k + 1, by omega, by go_num, ?_⟩
            rw [HT.out]
            intro x hx
            rcases List.mem_append.1 hx with hx | hx
            · exact HALL.out x hx
            · simp at hx; omega
          case measure => simp [intOf]; omega
    · obtain rfl : k = q.length := by omega
      rw [List.take_length] at HALL
      by_cases h1 : 1 ≤ q.length
      · have da : decide (1 ≤ q.length) = true := decide_eq_true h1
        have db : decide ((q.length : Int) ≤ 10) = false := decide_eq_false (fun h10 => HF.out ⟨h1, by omega, HALL.out⟩)
        clear HR
        go_wp2_with fail
        go_ret
        exact ⟨rfl, rfl⟩
      · have da : decide (1 ≤ q.length) = false := decide_eq_false h1
        clear HR
        go_wp2_with fail
        go_ret
        exact ⟨rfl, rfl⟩

/-- place k of a numeral along a fraction is allowed -/
def OkAt (q c : List Int) (k : Nat) : Prop :=
  0 ≤ c.getD k 0 ∧ c.getD k 0 ≤ q.getD k 0 ∧ (k = 0 → c.getD 0 0 < q.getD 0 0) ∧ (1 ≤ k → c.getD k 0 = q.getD k 0 → c.getD (k - 1) 0 = 0)
def IsAl (q c : List Int) : Prop := c.length = q.length ∧ ∀ k, k < q.length → OkAt q c k
theorem okAt_zero {q c : List Int} {x a : Int} (hx : c.getD 0 0 = x) (ha : q.getD 0 0 = a) : OkAt q c 0 ↔ 0 ≤ x ∧ x < a := by
  unfold OkAt; rw [hx, ha]; constructor
  · rintro ⟨h1, h2, h3, _⟩; exact ⟨h1, h3 rfl⟩
  · rintro ⟨h1, h2⟩; exact ⟨h1, by omega, fun _ => h2, fun h => by omega⟩
theorem okAt_succ {q c : List Int} {k : Nat} (h1 : 1 ≤ k) {x a p : Int} (hx : c.getD k 0 = x) (ha : q.getD k 0 = a) (hp : c.getD (k - 1) 0 = p) : OkAt q c k ↔ 0 ≤ x ∧ x ≤ a ∧ (x = a → p = 0) := by
  unfold OkAt; rw [hx, ha, hp]; constructor
  · rintro ⟨h1, h2, _, h3⟩; exact ⟨h1, h2, h3 (by omega)⟩
  · rintro ⟨h1, h2, h3⟩; exact ⟨h1, h2, fun h => by omega, fun _ => h3⟩
theorem okAll_next {q c : List Int} {k : Nat} (h : ∀ j, j < k → OkAt q c j) (h2 : OkAt q c k) : ∀ j, j < k + 1 → OkAt q c j := by
  intro j hj
  by_cases e : j = k
  · subst e; exact h2
  · exact h j (by omega)
/-- the sum of the places below k -/
def alv (q c : List Int) : Nat → Int
  | 0 => 0
  | k + 1 => alv q c k + c.getD k 0 * den q k
theorem alv_term (q c : List Int) (h : Fr q) (k : Nat) (hk : k < q.length) (ho : OkAt q c k) : 0 ≤ c.getD k 0 * den q k ∧ c.getD k 0 * den q k ≤ 90000000000 := by
  obtain ⟨h1, h2, h3, h4⟩ := den_le q h k (by omega)
  have ha := (h.at k hk).2
  have hx := ho.1
  have hx9 : c.getD k 0 ≤ 9 := Int.le_trans ho.2.1 ha
  have m1 := Int.mul_le_mul_of_nonneg_right hx9 (show 0 ≤ den q k by omega)
  exact ⟨Int.mul_nonneg hx (by omega), by omega⟩
theorem alv_bd (q c : List Int) (h : Fr q) (k : Nat) (hk : k ≤ q.length) (ho : ∀ j, j < k → OkAt q c j) : 0 ≤ alv q c k ∧ alv q c k ≤ k * 90000000000 := by
  induction k with
  | zero => simp [alv]
  | succ k ih =>
    obtain ⟨h1, h2⟩ := ih (by omega) (fun j hj => ho j (by omega))
    obtain ⟨h3, h4⟩ := alv_term q c h k (by omega) (ho k (by omega))
    rw [alv]
    omega

set_option maxRecDepth 100000 in
set_option maxHeartbeats 2000000 in
theorem isAlong_any (vq vc : Value) (q c : List Int) (h : Fr q) (r : Bool) (hr : r = true ↔ IsAl q c) (w : World) (hq : Ints w vq q) (hc : Ints w vc c) :
    Calls Try.prog 42 #[vq, vc] w fun e w' => e = .returned (.bool r) ∧ w = w' := by
  obtain ⟨hlen, A, cp, rfl, hcp, hqr⟩ := hq
  obtain ⟨hlenc, Ac, cc, rfl, hcc, hcr⟩ := hc
  have hq1 := h.1
  have hq10 := h.2.1
  obtain ⟨adq, rfl, hblq, hcellq⟩ := hqr (by omega)
  have HR := Lib.hid hr
  have HQ := Lib.hid hcellq
  have HCR := Lib.hid hcr
  have HAT := Lib.hid h.at
  clear hqr hcr hr h hcellq
  by_cases hne : c.length = q.length
  · have hb0 : ((c.length : Int) != q.length) = false := by simp [hne]
    have HNE := Lib.hid hne
    obtain ⟨adc, rfl, hblc, hcellc⟩ := HCR.out (by omega)
    have HC := Lib.hid hcellc
    have hle1 : c.length ≤ q.length := by omega
    have hle2 : q.length ≤ c.length := by omega
    clear hne hcellc HCR
    go_enter Try.func42, Try.ntmps42
    go_wp2_with fail
    go_loop [14] (fun i => ∃ k : Nat, k ≤ c.length ∧ i = .int .i64 k ∧ ∀ j, j < k → OkAt q c j) (fun i => c.length - (intOf i).toNat)
    case atStart => exact ⟨0, Nat.zero_le _, rfl, fun j hj => by omega⟩
    case round =>
      obtain ⟨k, hk, rfl, hall⟩ := hrel
      have HALL := Lib.hid hall
      clear hall
      by_cases hlt : k < c.length
      · have hcx := HC.out k _ (getD_get c k hlt)
        have hqx := HQ.out k _ (getD_get q k (by omega))
        obtain ⟨a1, a9⟩ := HAT.out k (by omega)
        have hbad : ¬ OkAt q c k → false = r := by
          intro hno
          cases r
          · rfl
          · exact absurd ((HR.out.1 rfl).2 k (by omega)) hno
        have HBAD := Lib.hid hbad
        clear hbad
        rcases Nat.eq_zero_or_pos k with rfl | hk1
        · have hz := okAt_zero (q := q) (c := c) rfl rfl
          have hcx' : w.cell? adc = some (.int .i64 (c.getD 0 0)) := hcx
          have hqx' : w.cell? adq = some (.int .i64 (q.getD 0 0)) := hqx
          have HZ := Lib.hid hz
          clear hz
          generalize c.getD 0 0 = x at *
          generalize q.getD 0 0 = a at *
          by_cases h1 : x < 0
          · have e1 : decide (x < 0) = true := decide_eq_true h1
            have HF := Lib.hid (HBAD.out (fun o => by have := HZ.out.1 o; omega))
            go_wp2_with fail
            go_ret
            exact ⟨by rw [← HF.out]; rfl, rfl⟩
          · have e1 : decide (x < 0) = false := decide_eq_false h1
            by_cases h2 : a < x
            · have e2 : decide (a < x) = true := decide_eq_true h2
              have HF := Lib.hid (HBAD.out (fun o => by have := HZ.out.1 o; omega))
              go_wp2_with fail
              go_ret
              exact ⟨by rw [← HF.out]; rfl, rfl⟩
            · have e2 : decide (a < x) = false := decide_eq_false h2
              by_cases h3 : a - 1 < x
              · have e3 : decide (a - 1 < x) = true := decide_eq_true h3
                have HF := Lib.hid (HBAD.out (fun o => by have := HZ.out.1 o; omega))
                go_wp2_with fail
                go_ret
                exact ⟨by rw [← HF.out]; rfl, rfl⟩
              · have e3 : decide (a - 1 < x) = false := decide_eq_false h3
                go_wp2_with fail
                go_round
                case rel => exact ⟨1, by omega, by go_num, okAll_next HALL.out (HZ.out.2 ⟨by omega, by omega⟩)⟩
                case measure => simp [intOf]; omega
        · have hz := okAt_succ (q := q) (c := c) (k := k) hk1 rfl rfl rfl
          have hpx := HC.out (k - 1) _ (getD_get c (k - 1) (by omega))
          have hkt : ((k : Int) - 1).toNat = k - 1 := by omega
          have HZ := Lib.hid hz
          clear hz
          generalize c.getD k 0 = x at *
          generalize q.getD k 0 = a at *
          generalize c.getD (k - 1) 0 = p at *
          have k0 : ((k : Int) == 0) = false := by rw [beq_eq_false_iff_ne]; omega
          have k1 : decide (0 < k) = true := decide_eq_true (by omega)
          by_cases h1 : x < 0
          · have e1 : decide (x < 0) = true := decide_eq_true h1
            have HF := Lib.hid (HBAD.out (fun o => by have := HZ.out.1 o; omega))
            go_wp2_with fail
            go_ret
            exact ⟨by rw [← HF.out]; rfl, rfl⟩
          · have e1 : decide (x < 0) = false := decide_eq_false h1
            by_cases h2 : a < x
            · have e2 : decide (a < x) = true := decide_eq_true h2
              have HF := Lib.hid (HBAD.out (fun o => by have := HZ.out.1 o; omega))
              go_wp2_with fail
              go_ret
              exact ⟨by rw [← HF.out]; rfl, rfl⟩
            · have e2 : decide (a < x) = false := decide_eq_false h2
              by_cases h3 : x = a
              · subst h3
                by_cases h4 : p = 0
                · subst h4
                  go_wp2_with fail
                  go_round
                  case rel => exact ⟨k + 1, by omega, by go_num, okAll_next HALL.out (HZ.out.2 ⟨by omega, by omega, fun _ => rfl⟩)⟩
                  case measure => simp [intOf]; omega
                · have e4 : (p != 0) = true := by simpa using h4
                  have HF := Lib.hid (HBAD.out (fun o => h4 ((HZ.out.1 o).2.2 rfl)))
                  clear h4
                  go_wp2_with fail
                  go_ret
                  exact ⟨by rw [← HF.out]; rfl, rfl⟩
              · have e4 : (x == a) = false := by simpa using h3
                have HG := Lib.hid (HZ.out.2 ⟨by omega, by omega, fun h => absurd h h3⟩)
                clear h3
                go_wp2_with fail
                go_round
                case rel => exact ⟨k + 1, by omega, by go_num, okAll_next HALL.out HG.out⟩
                case measure => simp [intOf]; omega
      · obtain rfl : k = c.length := by omega
        have HT := Lib.hid (HR.out.2 ⟨HNE.out, fun j hj => HALL.out j (by omega)⟩)
        go_wp2_with fail
        go_ret
        exact ⟨by rw [HT.out]; rfl, rfl⟩
  · have hb0 : ((c.length : Int) != q.length) = true := by rw [bne_iff_ne]; omega
    have hrf : r = false := by
      cases r
      · rfl
      · exact absurd (HR.out.1 rfl).1 hne
    subst hrf
    clear HR HCR
    go_enter Try.func42, Try.ntmps42
    go_wp2_with fail
    go_ret
    exact ⟨rfl, rfl⟩

end Go.Proofs.Ytiknocjdogbajaa
