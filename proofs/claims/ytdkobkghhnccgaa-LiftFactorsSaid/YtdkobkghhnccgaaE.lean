/- Walks: the value of a polynomial modulo a number, of the program and of the reference; the derivative. -/
import Derived.Test.YtdkobkghhnccgaaB
namespace Go.Proofs.Ytdkobkghhnccgaa
open Go.RowKit
theorem tmod_bd (r m : Int) (h : 0 < m) : -m < r.tmod m ∧ r.tmod m < m := ⟨Int.lt_tmod_of_pos r h, Int.tmod_lt_of_pos r h⟩
theorem tmod_pos (r m : Int) (h : 0 < m) : (r.tmod m + m) % m = r % m := by
  rw [Int.add_emod_right, Int.tmod_eq_emod]
  split
  · simp
  · rw [Int.sub_emod, Int.emod_emod]
    have : ((m.natAbs : Int)) % m = 0 := by
      rw [show ((m.natAbs : Int)) = m by omega]; exact Int.emod_self
    rw [this]; simp
set_option maxHeartbeats 1000000 in
theorem mod_any (n m : Int) (h1 : 1 ≤ m) (h2 : m ≤ 1000000000) (w : World) :
    Calls Try.prog 72 #[.int .i64 n, .int .i64 m] w fun e w' => e = .returned (.int .i64 (n % m)) ∧ w = w' := by
  have hb := tmod_bd n m (by omega)
  have hb1 := hb.1
  have hb2 := hb.2
  have HE := Lib.hid (tmod_pos n m (by omega))
  clear hb
  by_cases h0 : 0 ≤ n
  · have HM := Lib.hid (Int.tmod_eq_emod_of_nonneg (a := n) (b := m) h0)
    rw [HM.out] at hb1 hb2 HE
    go_enter Try.func72, Try.ntmps72
    go_wp2_with fail
    go_ret
    exact ⟨ret_int HE.out, rfl⟩
  · rw [Int.add_emod_right] at HE
    go_enter Try.func72, Try.ntmps72
    go_wp2_with fail
    go_ret
    exact ⟨ret_int HE.out, rfl⟩
theorem prod_le {a b A B : Int} (h0 : 0 ≤ a) (h1 : a ≤ A) (h2 : 0 ≤ b) (h3 : b ≤ B) : 0 ≤ a * b ∧ a * b ≤ A * B :=
  ⟨Int.mul_nonneg h0 h2, Int.mul_le_mul h1 h3 h2 (by omega)⟩
set_option maxHeartbeats 4000000 in
theorem at_any (v : Value) (f : List Int) (x m : Int) (hx0 : 0 ≤ x) (hx1 : x ≤ 1000000) (hm0 : 1 ≤ m) (hm1 : m ≤ 1000000) (hc : ∀ k, k < f.length → -10000000 ≤ f.getD k 0 ∧ f.getD k 0 ≤ 10000000) (w : World) (hv : Ints w v f) :
    Calls Try.prog 56 #[v, .int .i64 x, .int .i64 m] w fun e w' => e = .returned (.int .i64 (ev f x % m)) ∧ w = w' := by
  obtain ⟨hlen, A, c, rfl, _, hcr⟩ := hv
  have HCR := Lib.hid hcr
  have HC := Lib.hid hc
  clear hcr hc
  go_enter Try.func56, Try.ntmps56
  go_wp2_with fail
  go_loop [7, 8] (fun o i => ∃ k : Nat, k ≤ f.length ∧ i = .int .i64 ((k : Int) - 1) ∧ o = .int .i64 (ev (f.drop k) x % m)) (fun _ i => (intOf i + 1).toNat)
  case atStart => exact ⟨f.length, Nat.le_refl _, rfl, by rw [List.drop_length]; rfl⟩
  case round =>
    obtain ⟨k, hk, rfl, rfl⟩ := hrel
    by_cases hlt : 1 ≤ k
    · obtain ⟨ad, rfl, hbl, hcell⟩ := HCR.out (by omega)
      have hcx := hcell (k - 1) _ (getD_get f (k - 1) (by omega))
      have hkt : ((k : Int) - 1).toNat = k - 1 := by omega
      have hcb := HC.out (k - 1) (by omega)
      have hcb1 := hcb.1
      have hcb2 := hcb.2
      have HE := Lib.hid (show ((ev (f.drop k) x % m) * x + f.getD (k - 1) 0) % m = ev (f.drop (k - 1)) x % m by
        rw [horner, ev_drop f x (k - 1) (by omega), show k - 1 + 1 = k by omega])
      have hA0 := Int.emod_nonneg (ev (f.drop k) x) (show m ≠ 0 by omega)
      have hA1 := Int.emod_lt_of_pos (ev (f.drop k) x) (show 0 < m by omega)
      have hpb := prod_le hA0 (show ev (f.drop k) x % m ≤ 1000000 by omega) hx0 hx1
      have hpb1 := hpb.1
      have hpb2 := hpb.2
      have d1 : decide (0 ≤ (k : Int) - 1) = true := decide_eq_true (by omega)
      have d2 : decide (1 ≤ (k : Int)) = true := decide_eq_true (by omega)
      have d3 : decide (1 ≤ k) = true := decide_eq_true (by omega)
      clear hcell hcb hpb
      generalize ev (f.drop k) x % m = a at *
      generalize f.getD (k - 1) 0 = y at *
      go_wp2_with fail
      refine (mod_any _ _ hm0 (by omega) _).mono ?_
      rintro e _ ⟨rfl, rfl⟩
      go_wp2_with fail
      go_round
      case rel => exact ⟨k - 1, by omega, by congr 1; omega, by rw [HE.out]⟩
      case measure => simp [intOf]; omega
    · obtain rfl : k = 0 := by omega
      have d1 : decide (0 ≤ ((0 : Nat) : Int) - 1) = false := by decide
      go_wp2_with fail
      go_ret
      exact ⟨rfl, rfl⟩
set_option maxHeartbeats 4000000 in
theorem rAt_any (v : Value) (f : List Int) (x m : Int) (hx0 : 0 ≤ x) (hx1 : x ≤ 1000000) (hm0 : 1 ≤ m) (hm1 : m ≤ 1000000) (hl : f.length ≤ 1000000) (w : World) (hv : Ints w v f) :
    Calls Try.prog 58 #[v, .int .i64 x, .int .i64 m] w fun e w' => e = .returned (.int .i64 (ev f x % m)) ∧ Below w.heap.size w w' := by
  obtain ⟨hlen, A, c, rfl, _, hcr⟩ := hv
  have HCR := Lib.hid hcr
  have HW := Lib.hid (show (1 : Int).tmod m = 1 % m from Int.tmod_eq_emod_of_nonneg (by omega))
  have hmz : (m == 0) = false := by rw [beq_eq_false_iff_ne]; omega
  clear hcr
  go_enter Try.func58, Try.ntmps58
  go_wp2_with fail
  go_quiet (fail)
  go_wp2_with fail
  go_loop [7, 8, 15] (fun o p i => ∃ k : Nat, k ≤ f.length ∧ i = .int .i64 k ∧ o = .int .i64 (ev (f.take k) x % m) ∧ p = .int .i64 (pw x k % m)) (fun _ _ i => f.length - (intOf i).toNat)
  case atStart => exact ⟨0, Nat.zero_le _, rfl, by simp [ev], rfl⟩
  case round =>
    obtain ⟨k, hk, rfl, rfl, rfl⟩ := hrel
    by_cases hlt : k < f.length
    · obtain ⟨ad, rfl, hbl, hcell⟩ := HCR.out (by omega)
      have hcx := hcell k _ (getD_get f k hlt)
      have HE := Lib.hid (show (ev (f.take k) x % m + ((f.getD k 0).tmod m + m) * (pw x k % m)) % m = ev (f.take (k + 1)) x % m by
        rw [sum_step _ _ _ _ (by omega), ev_take f x k hlt])
      have HP := Lib.hid (show (pw x k % m) * x % m = pw x (k + 1) % m by rw [pow_step, pw])
      have hA0 := Int.emod_nonneg (ev (f.take k) x) (show m ≠ 0 by omega)
      have hA1 := Int.emod_lt_of_pos (ev (f.take k) x) (show 0 < m by omega)
      have hB0 := Int.emod_nonneg (pw x k) (show m ≠ 0 by omega)
      have hB1 := Int.emod_lt_of_pos (pw x k) (show 0 < m by omega)
      have htb := tmod_bd (f.getD k 0) m (by omega)
      have htb1 := htb.1
      have htb2 := htb.2
      have hpb := prod_le (show 0 ≤ (f.getD k 0).tmod m + m by omega) (show (f.getD k 0).tmod m + m ≤ 2000000 by omega) hB0 (show pw x k % m ≤ 1000000 by omega)
      have hpb1 := hpb.1
      have hpb2 := hpb.2
      have hpx := prod_le hB0 (show pw x k % m ≤ 1000000 by omega) hx0 hx1
      have hpx1 := hpx.1
      have hpx2 := hpx.2
      clear hcell htb hpb hpx
      generalize ev (f.take k) x % m = a at *
      generalize pw x k % m = b at *
      generalize f.getD k 0 = y at *
      go_wp2_with fail
      go_round
      case rel => exact ⟨k + 1, by omega, by go_num, by rw [← HE.out], by rw [← HP.out]⟩
      case measure => simp [intOf]; omega
    · obtain rfl : k = f.length := by omega
      rw [List.take_length]
      go_wp2_with fail
      go_ret
      exact ⟨rfl, below_drewN (Below.refl _ _) _⟩
theorem Own.cells {w : World} {base g n cap : Nat} {xs : List Int} (h : Own w base (.slice (some ⟨g, 0, none⟩) n cap) xs) (j : Nat) (hj : j < xs.length) : w.cell? ⟨g, j, none⟩ = some (.int .i64 (xs.getD j 0)) := by
  have := (h.holds j (by simpa using hj)).1
  rw [Nat.zero_add] at this
  rw [this]
  simp [hj]
set_option maxHeartbeats 4000000 in
theorem derivative_any (base : Nat) (v : Value) (f : List Int) (h2 : 2 ≤ f.length) (h7 : f.length ≤ 7) (hc : ∀ k, k < f.length → -1000 ≤ f.getD k 0 ∧ f.getD k 0 ≤ 1000) (w : World) (hv : Own w base v f) :
    Calls Try.prog 57 #[v] w fun e w' => ∃ v', e = .returned v' ∧ Own w' w.heap.size v' (dv f) ∧ Below w.heap.size w w' := by
  have HV := Lib.hid hv
  have HC := Lib.hid hc
  obtain ⟨g, c, rfl, hcap, hg1, hg2, _⟩ := hv.seen (by omega)
  clear hc hv
  go_enter Try.func57, Try.ntmps57
  go_wp2_with fail
  go_loopw [3, 9] (fun o i wr => ∃ k : Nat, k ≤ f.length - 1 ∧ i = .int .i64 k ∧ Own wr w.heap.size o (dvk f k) ∧ Below w.heap.size w wr) (fun _ i _ => (f.length - 1) - (intOf i).toNat)
  case atStart => exact ⟨0, Nat.zero_le _, rfl, Own.nil _ _, Below.refl _ _⟩
  case round =>
    obtain ⟨k, hk, rfl, hown, hb⟩ := hrel
    have HB := Lib.hid hb
    by_cases hlt : k < f.length - 1
    · have HVW := Lib.hid (HV.out.same (fun b _ hlt => hb.block b hlt))
      have hcx : wr.cell? ⟨g, k + 1, none⟩ = some (.int .i64 (f.getD (k + 1) 0)) := HVW.out.cells (k + 1) (by omega)
      have hcx2 : wr.cell? ⟨g, 1 + k, none⟩ = some (.int .i64 (f.getD (k + 1) 0)) := by rw [Nat.add_comm 1 k]; exact hcx
      have hcb := HC.out (k + 1) (by omega)
      have HS := Lib.hid (dvk_succ f k)
      have hm1 : -7000 ≤ f.getD (k + 1) 0 * ((k : Int) + 1) ∧ f.getD (k + 1) 0 * ((k : Int) + 1) ≤ 7000 := by
        have : k = 0 ∨ k = 1 ∨ k = 2 ∨ k = 3 ∨ k = 4 ∨ k = 5 := by omega
        generalize f.getD (k + 1) 0 = y at *
        rcases this with rfl | rfl | rfl | rfl | rfl | rfl <;> simp <;> omega
      have hm2 := hm1.1
      have hm3 := hm1.2
      have hcb1 := hcb.1
      have hcb2 := hcb.2
      clear hm1 hcb hb
      generalize f.getD (k + 1) 0 = y at *
      go_wp2_with (at_builtin; refine wpList_append_new _ rfl _ _ 81 rfl Try.underlying81 w.heap.size u3 (dvk f k) rfl hown (y * ((k : Int) + 1)) rfl (by rw [dvk_length]; omega) HB.out.size ?_; intro v' w1 hown1 _ hb1)
      go_roundw
      case rel => exact ⟨k + 1, by omega, by go_num, by rw [HS.out]; exact hown1, HB.out.trans hb1⟩
      case measure => simp [intOf]; omega
    · obtain rfl : k = f.length - 1 := by omega
      go_wp2_with fail
      go_ret
      exact ⟨_, rfl, hown, HB.out⟩
end Go.Proofs.Ytdkobkghhnccgaa
