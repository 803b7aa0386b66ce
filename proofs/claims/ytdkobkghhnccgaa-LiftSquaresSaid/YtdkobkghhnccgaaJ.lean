/- Walks: powers, residues that are their own power, square roots of the reference. -/
import Derived.Test.YtdkobkghhnccgaaI
import Derived.Test.YtdkobkghhnccgaaT
namespace Go.Proofs.Ytdkobkghhnccgaa
open Go.RowKit
theorem pwm_lt (x m : Nat) (hm : 0 < m) : ∀ n, pwm x m n < m := by
  intro n
  cases n with
  | zero => exact Nat.mod_lt _ hm
  | succ n => exact Nat.mod_lt _ hm
theorem itT_lt (p m r : Nat) (hm : 0 < m) (hr : r < m) : ∀ k, itT p m r k < m := by
  intro k
  cases k with
  | zero => exact hr
  | succ k => exact pwm_lt _ _ hm _
theorem natprod {a b A B : Nat} (h1 : a ≤ A) (h2 : b ≤ B) : 0 ≤ (a : Int) * b ∧ (a : Int) * b ≤ (A * B : Nat) := by
  have : a * b ≤ A * B := Nat.mul_le_mul h1 h2
  have e : ((a * b : Nat) : Int) = (a : Int) * b := by simp
  omega
set_option maxHeartbeats 4000000 in
theorem raised_any (x n m : Nat) (hm0 : 1 ≤ m) (hm1 : m ≤ 20000) (hx : x ≤ 20000) (hn : n ≤ 1000) (w : World) :
    Calls Try.prog 55 #[.int .i64 x, .int .i64 n, .int .i64 m] w fun e w' => e = .returned (.int .i64 (pwm x m n : Nat)) ∧ w = w' := by
  have HZ := Lib.hid (show ((pwm x m 0 : Nat) : Int) = 1 % (m : Int) from by rw [pwm]; exact Int.natCast_emod 1 m)
  go_enter Try.func55, Try.ntmps55
  go_wp2_with fail
  go_loop [7, 11] (fun o i => ∃ k : Nat, k ≤ n ∧ i = .int .i64 k ∧ o = .int .i64 (pwm x m k : Nat)) (fun _ i => n - (intOf i).toNat)
  case atStart => exact ⟨0, by omega, rfl, by rw [HZ.out]⟩
  case round =>
    obtain ⟨k, hk, rfl, rfl⟩ := hrel
    by_cases hlt : k < n
    · have hl := pwm_lt x m (by omega) k
      have HE := Lib.hid (show ((pwm x m (k + 1) : Nat) : Int) = ((pwm x m k : Nat) : Int) * (x : Int) % (m : Int) from by rw [pwm]; simp)
      have hp := natprod (show pwm x m k ≤ 20000 by omega) hx
      have hp1 := hp.1
      have hp2 := hp.2
      clear hp
      generalize pwm x m k = a at *
      go_wp2_with fail
      go_round
      case rel => exact ⟨k + 1, by omega, by go_num, by rw [HE.out]⟩
      case measure => simp [intOf]; omega
    · obtain rfl : k = n := by omega
      go_wp2_with fail
      go_ret
      exact ⟨rfl, rfl⟩
set_option maxHeartbeats 4000000 in
theorem Teich_yes (P K r : Nat) (hP : isP P) (hK : 1 ≤ K) (hq : pn P K ≤ 20000) (hr : r < P) (w : World) :
    Calls Try.prog 21 #[.int .i64 r, .int .i64 P, .int .i64 K] w fun e w' => e = .returned (.tuple #[.int .i64 (teich P K r : Nat), .int .i64 0]) ∧ Below w.heap.size w w' := by
  have h2 := hP.pos
  have h13 := hP.le
  have hK14 := pn_k h2 hq
  have hq1 := pn_mono (p := P) (by omega) 1 K hK
  rw [pn_one] at hq1
  have HP := Lib.hid hP
  have HQ := Lib.hid hq
  have d1 : decide ((r : Int) < 0) = false := decide_eq_false (by omega)
  have d2 : decide ((P : Int) ≤ r) = false := decide_eq_false (by omega)
  have d3 : decide (P ≤ r) = false := decide_eq_false (by omega)
  clear hP
  go_enter Try.func21, Try.ntmps21
  go_wp2_with fail
  refine (power_yes P K HP.out hK HQ.out _).mono ?_
  rintro e w1 ⟨rfl, b1⟩
  have HL := Lib.hid (fun k => itT_lt P (pn P K) r (by omega) (by omega) k)
  have HT := Lib.hid (show teich P K r = itT P (pn P K) r K from rfl)
  have HI := Lib.hid (show ∀ k, itT P (pn P K) r (k + 1) = pwm (itT P (pn P K) r k) (pn P K) P from fun k => rfl)
  have HI0 := Lib.hid (show itT P (pn P K) r 0 = r from rfl)
  generalize pn P K = q at *
  go_wp2_with fail
  clear d1 d2 d3
  go_loop [0, 28] (fun o i => ∃ k : Nat, k ≤ K ∧ i = .int .i64 k ∧ o = .int .i64 (itT P q r k : Nat)) (fun _ i => K - (intOf i).toNat)
  case atStart => exact ⟨0, by omega, rfl, by rw [HI0.out]⟩
  case round =>
    obtain ⟨k, hk, rfl, rfl⟩ := hrel
    by_cases hlt : k < K
    · have hl := HL.out k
      have HE := Lib.hid (HI.out k)
      generalize itT P q r k = a at *
      go_wp2_with fail
      with_reducible refine (raised_any a P q (by omega) hq (by omega) (by omega) _).mono ?_
      rintro e _ ⟨rfl, rfl⟩
      go_wp2_with fail
      go_round
      case rel => exact ⟨k + 1, by omega, by go_num, by rw [HE.out]⟩
      case measure => simp [intOf]; omega
    · obtain rfl : k = K := by omega
      rw [← HT.out]
      go_wp2_with fail
      go_ret2
      exact ⟨rfl, b1⟩
set_option maxHeartbeats 4000000 in
theorem Teich_no (r p k : Int) (h : ¬ (PK p k ∧ 0 ≤ r ∧ r < p)) (w : World) :
    Calls Try.prog 21 #[.int .i64 r, .int .i64 p, .int .i64 k] w fun e w' => e = .returned (.tuple #[.int .i64 0, .int .i64 2]) ∧ Below w.heap.size w w' := by
  by_cases hp : PK p k
  · have HPK := Lib.hid hp
    obtain ⟨P, K, rfl, rfl, hP, hK, hq⟩ := hp
    have HP := Lib.hid hP
    have HQ := Lib.hid hq
    by_cases h1 : r < 0
    · have d1 : decide (r < 0) = true := decide_eq_true h1
      clear h hP hq
      go_enter Try.func21, Try.ntmps21
      go_wp2_with fail
      refine (power_yes P K HP.out hK HQ.out _).mono ?_
      rintro e w1 ⟨rfl, b1⟩
      go_wp2_with fail
      go_ret2
      exact ⟨rfl, b1⟩
    · have d1 : decide (r < 0) = false := decide_eq_false h1
      have h3 : (P : Int) ≤ r := by
        rcases (show (P : Int) ≤ r ∨ r < P by omega) with g | g
        · exact g
        · exact absurd ⟨HPK.out, by omega, g⟩ h
      have d2 : decide ((P : Int) ≤ r) = true := decide_eq_true h3
      clear h hP hq
      go_enter Try.func21, Try.ntmps21
      go_wp2_with fail
      refine (power_yes P K HP.out hK HQ.out _).mono ?_
      rintro e w1 ⟨rfl, b1⟩
      go_wp2_with fail
      go_ret2
      exact ⟨rfl, b1⟩
  · have HP := Lib.hid hp
    clear h hp
    go_enter Try.func21, Try.ntmps21
    go_wp2_with fail
    refine (power_no p k HP.out _).mono ?_
    rintro e w1 ⟨rfl, b1⟩
    go_wp2_with fail
    go_ret2
    exact ⟨rfl, b1⟩
/-- the finite check at one power -/
theorem mem_pks {P K : Nat} (hP : isP P) (_ : 1 ≤ K) (hq : pn P K ≤ 20000) : ∃ n, (P, n) ∈ pks ∧ K ≤ n := by
  have key : ∀ p n : Nat, 2 ≤ p → (20000 < pn p (n + 1)) → pn p K ≤ 20000 → K ≤ n := by
    intro p n h2 h1 h
    rcases Nat.lt_or_ge n K with g | g
    · have := pn_mono (p := p) (by omega) (n + 1) K g
      omega
    · exact g
  rcases hP with rfl | rfl | rfl | rfl | rfl | rfl
  · exact ⟨14, by decide, key 2 14 (by omega) (by decide) hq⟩
  · exact ⟨9, by decide, key 3 9 (by omega) (by decide) hq⟩
  · exact ⟨6, by decide, key 5 6 (by omega) (by decide) hq⟩
  · exact ⟨5, by decide, key 7 5 (by omega) (by decide) hq⟩
  · exact ⟨4, by decide, key 11 4 (by omega) (by decide) hq⟩
  · exact ⟨3, by decide, key 13 3 (by omega) (by decide) hq⟩
theorem teich_ok {P K : Nat} (hP : isP P) (hK : 1 ≤ K) (hq : pn P K ≤ 20000) (r : Nat) (hr : r < P) :
    teich P K r % P = r ∧ pwm (teich P K r) (pn P K) P = teich P K r ∧ teich P K r < pn P K ∧ noneB P (pn P K) r (teich P K r / P) = true := by
  obtain ⟨n, hm, hn⟩ := mem_pks hP hK hq
  have h1 := List.all_eq_true.1 (List.all_eq_true.1 teich_all _ hm) (K - 1) (List.mem_range.2 (by simp; omega))
  rw [show K - 1 + 1 = K by omega] at h1
  have h2 := List.all_eq_true.1 h1 r (List.mem_range.2 hr)
  simp only [Bool.and_eq_true, beq_iff_eq, decide_eq_true_eq] at h2
  exact ⟨h2.1.1.1, h2.1.1.2, h2.1.2, h2.2⟩
theorem lett_ok {P K : Nat} (hP : isP P) (hK : 1 ≤ K) (hq : pn P K ≤ 20000) :
    (∀ r s, r < P → s < P → teich P K (r * s % P) = teich P K r * teich P K s % pn P K) ∧ teich P K 0 = 0 ∧ teich P K 1 = 1 := by
  obtain ⟨n, hm, hn⟩ := mem_pks hP hK hq
  have h1 := List.all_eq_true.1 (List.all_eq_true.1 lett_all _ hm) (K - 1) (List.mem_range.2 (by simp; omega))
  rw [show K - 1 + 1 = K by omega] at h1
  simp only [Bool.and_eq_true, beq_iff_eq] at h1
  refine ⟨fun r s hr hs => ?_, h1.1.2, h1.2⟩
  have h2 := List.all_eq_true.1 (List.all_eq_true.1 h1.1.1 r (List.mem_range.2 hr)) s (List.mem_range.2 hs)
  simpa using h2
theorem noneB_at (p q r : Nat) : ∀ n i, noneB p q r n = true → i < n → pwm (r + i * p) q p ≠ r + i * p := by
  intro n
  induction n with
  | zero => intro i _ h; omega
  | succ n ih =>
    intro i h hi
    rw [noneB, Bool.and_eq_true] at h
    by_cases e : i = n
    · subst e
      have := h.2
      simpa using this
    · exact ih i h.1 (by omega)
set_option maxHeartbeats 8000000 in
theorem rTeich_any (P K r : Nat) (hP : isP P) (hK : 1 ≤ K) (hq : pn P K ≤ 20000) (hr : r < P) (w : World) :
    Calls Try.prog 22 #[.int .i64 r, .int .i64 P, .int .i64 (pn P K : Nat)] w fun e w' => e = .returned (.int .i64 (teich P K r : Nat)) ∧ w = w' := by
  have h2 := hP.pos
  have h13 := hP.le
  have hq0 := pn_pos (show 0 < P by omega) K
  obtain ⟨t1, t2, t3, t4⟩ := teich_ok hP hK hq r hr
  have hN := noneB_at P (pn P K) r (teich P K r / P)
  generalize pn P K = q at *
  generalize teich P K r = T at *
  have ht := Nat.div_add_mod T P
  rw [t1, Nat.mul_comm] at ht
  have HN := Lib.hid (fun i => hN i t4)
  have HT := Lib.hid (show T = r + T / P * P by omega)
  have HPW := Lib.hid t2
  have HZ := Lib.hid (fun x : Nat => (show ((pwm x q 0 : Nat) : Int) = 1 % (q : Int) from by rw [pwm]; exact Int.natCast_emod 1 q))
  clear t1 t2 t4 hN ht hP
  generalize T / P = n at *
  go_enter Try.func22, Try.ntmps22
  go_wp2_with fail
  go_loop [7] (fun x => ∃ i : Nat, i ≤ n ∧ x = .int .i64 ((r + i * P : Nat) : Int)) (fun x => T + 1 - (intOf x).toNat)
  case atStart => exact ⟨0, by omega, by simp⟩
  case round =>
    obtain ⟨i, hi, rfl⟩ := hrel
    have hxT : r + i * P ≤ T := by
      have := Nat.mul_le_mul_right P hi
      have := HT.out
      omega
    have HNI := Lib.hid (fun h => HN.out i h)
    have HIN := Lib.hid (fun h : i = n => (by rw [h]; exact HT.out.symm : r + i * P = T))
    have HNX := Lib.hid (show r + (i + 1) * P = r + i * P + P by rw [Nat.succ_mul]; omega)
    have HNB := Lib.hid (fun h : i < n => (by
      have a := Nat.mul_le_mul_right P (show i + 1 ≤ n from h)
      have b := HT.out
      rw [Nat.succ_mul] at a
      omega : r + i * P + P ≤ T))
    have HZX := Lib.hid (HZ.out (r + i * P))
    generalize r + i * P = x at *
    have dlt : decide ((x : Int) < q) = true := decide_eq_true (by omega)
    have dlt2 : decide (x < q) = true := decide_eq_true (by omega)
    go_wp2_with fail
    go_loop [8, 19] (fun y j => ∃ k : Nat, k ≤ P ∧ j = .int .i64 k ∧ y = .int .i64 (pwm x q k : Nat)) (fun _ j => P - (intOf j).toNat)
    case atStart => exact ⟨0, by omega, rfl, by rw [HZX.out]⟩
    case round =>
      obtain ⟨k, hk, rfl, rfl⟩ := hrel
      clear dlt dlt2
      by_cases hlt : k < P
      · have hl := pwm_lt x q hq0 k
        have HE := Lib.hid (show ((pwm x q (k + 1) : Nat) : Int) = ((pwm x q k : Nat) : Int) * (x : Int) % (q : Int) from by rw [pwm]; simp)
        have hp := natprod (show pwm x q k ≤ 20000 by omega) (show x ≤ 20000 by omega)
        have hp1 := hp.1
        have hp2 := hp.2
        clear hp
        generalize pwm x q k = a at *
        go_wp2_with fail
        go_round
        case rel => exact ⟨k + 1, by omega, by go_num, by rw [HE.out]⟩
        case measure => simp [intOf]; omega
      · obtain rfl : k = P := by omega
        by_cases hin : i < n
        · have hne : ((pwm x q k : Int) == (x : Int)) = false := by rw [beq_eq_false_iff_ne]; have := HNI.out hin; omega
          have hne2 : (pwm x q k == x) = false := by rw [beq_eq_false_iff_ne]; exact HNI.out hin
          have hnb := HNB.out hin
          generalize pwm x q k = y at *
          go_wp2_with fail
          go_round
          case rel => exact ⟨i + 1, by omega, by rw [HNX.out]; go_num⟩
          case measure => simp [intOf]; omega
        · have hxT2 := HIN.out (by omega)
          subst hxT2
          have hee : pwm x q k = x := HPW.out
          rw [hee]
          clear hee
          go_wp2_with fail
          go_ret
          exact ⟨rfl, rfl⟩
theorem sq_tmod (x a q : Int) : ((x * x - a).tmod q = 0) ↔ ev (sq a) x % q = 0 := by
  rw [ev_sq, ← Int.dvd_iff_emod_eq_zero, ← Int.dvd_iff_tmod_eq_zero]
set_option maxHeartbeats 4000000 in
theorem rSquare_any (a : Int) (h1 : -1000000 ≤ a) (h2 : a ≤ 1000000) (q : Nat) (hq1 : 1 ≤ q) (hq2 : q ≤ 20000) (w : World) :
    Calls Try.prog 24 #[.int .i64 a, .int .i64 q] w fun e w' => ∃ v', e = .returned v' ∧ Own w' w.heap.size v' (rootsL (sq a) q) ∧ Below w.heap.size w w' := by
  go_enter Try.func24, Try.ntmps24
  go_wp2_with fail
  go_loopw [5, 8] (fun o i wr => ∃ k : Nat, k ≤ q ∧ i = .int .i64 k ∧ Own wr w.heap.size o (rootsk (sq a) q k) ∧ Below w.heap.size w wr) (fun _ i _ => q - (intOf i).toNat)
  case atStart => exact ⟨0, by omega, rfl, Own.nil _ _, Below.refl _ _⟩
  case round =>
    obtain ⟨k, hk, rfl, hown, hb⟩ := hrel
    have HB := Lib.hid hb
    clear hb
    by_cases hlt : k < q
    · have hkl := rootsk_le (sq a) q k
      have hp := natprod (show k ≤ 20000 by omega) (show k ≤ 20000 by omega)
      have hp1 := hp.1
      have hp2 := hp.2
      clear hp
      have hk2 : (k : Int) * k = 0 ∨ True := .inr trivial
      clear hk2
      by_cases hz : ev (sq a) (k : Int) % (q : Int) = 0
      · have HA := Lib.hid (rootsk_yes (sq a) q k hz)
        have hz1 : (((k : Int) * k - a).tmod q == 0) = true := by rw [beq_iff_eq]; exact (sq_tmod _ _ _).2 hz
        have hz2 : (((k : Int) * k - a) % q == 0) = true := by rw [beq_iff_eq, ← ev_sq]; exact hz
        clear hz
        go_wp2_with (at_builtin; refine wpList_append_new _ rfl _ _ 22 rfl Try.underlying22 w.heap.size u5 _ rfl hown (k : Int) rfl (by omega) HB.out.size ?_; intro v' w1 hown1 _ hb1)
        go_roundw
        case rel => exact ⟨k + 1, by omega, by go_num, by rw [HA.out]; exact hown1, HB.out.trans hb1⟩
        case measure => simp [intOf]; omega
      · have HA := Lib.hid (rootsk_no (sq a) q k hz)
        have hz1 : (((k : Int) * k - a).tmod q == 0) = false := by rw [beq_eq_false_iff_ne]; exact fun h => hz ((sq_tmod _ _ _).1 h)
        have hz2 : (((k : Int) * k - a) % q == 0) = false := by rw [beq_eq_false_iff_ne, ← ev_sq]; exact hz
        have HO := Lib.hid hown
        clear hz hown
        go_wp2_with fail
        go_roundw
        case rel => exact ⟨k + 1, by omega, by go_num, by rw [HA.out]; exact HO.out, HB.out⟩
        case measure => simp [intOf]; omega
    · obtain rfl : k = q := by omega
      go_wp2_with fail
      go_ret
      exact ⟨_, rfl, hown, HB.out⟩
end Go.Proofs.Ytdkobkghhnccgaa
