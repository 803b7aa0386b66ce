/- Walks: the greatest common divisor, orders and fractions of lift and of the reference. -/
import Derived.Test.YtdkobkghhnccgaaK
import Derived.Test.YtdkobkghhnccgaaD
import Derived.Test.YtdkobkghhnccgaaNp
namespace Go.Proofs.Ytdkobkghhnccgaa
open Go.RowKit
open Np (frc Red ord Prm)
theorem dvd_abs {p : Nat} {a : Int} : (p : Int) ∣ a ↔ p ∣ a.natAbs := by
  rw [← Int.natAbs_dvd_natAbs, Int.natAbs_natCast]
theorem isP.prm {p : Nat} (h : isP p) : Prm p := by
  refine ⟨h.pos, fun a b hab => ?_⟩
  by_cases ha : (p : Int) ∣ a
  · exact .inl ha
  · right
    have hc : Nat.Coprime a.natAbs p := cop h _ (fun e => ha (dvd_abs.2 (Nat.dvd_of_mod_eq_zero e)))
    have h2 : p ∣ a.natAbs * b.natAbs := by rw [← Int.natAbs_mul]; exact dvd_abs.1 hab
    exact dvd_abs.2 (hc.symm.dvd_of_dvd_mul_left h2)
theorem gcd_tmod (x y : Int) : Int.gcd y (x.tmod y) = Int.gcd x y := by
  rw [Int.gcd_eq_natAbs_gcd_natAbs, Int.gcd_eq_natAbs_gcd_natAbs, Int.natAbs_tmod, Nat.gcd_comm x.natAbs, Nat.gcd_rec y.natAbs x.natAbs, Nat.gcd_comm]
theorem tmod_abs (x y : Int) (h : y ≠ 0) : (x.tmod y).natAbs < y.natAbs := by
  rw [Int.natAbs_tmod]
  exact Nat.mod_lt _ (by omega)
theorem leP {p : Nat} (h : isP p) : p ≤ 13 := by rcases h with h | h | h | h | h | h <;> omega
set_option maxHeartbeats 4000000 in
theorem gcd_any (a b : Int) (ha : a.natAbs ≤ 1000000000) (hb : b.natAbs ≤ 1000000000) (w : World) :
    Calls Try.prog 95 #[.int .i64 a, .int .i64 b] w fun e w' => e = .returned (.int .i64 (Int.gcd a b : Nat)) ∧ ∃ q, w' = w.drewN q := by
  go_enter Try.func95, Try.ntmps95
  go_wp2_with fail
  go_loopw [0, 1] (fun u v wr => ∃ x y : Int, x.natAbs ≤ 1000000000 ∧ y.natAbs ≤ 1000000000 ∧ u = .int .i64 x ∧ v = .int .i64 y ∧ Int.gcd x y = Int.gcd a b ∧ ∃ q, wr = w.drewN q) (fun _ v _ => (intOf v).natAbs)
  case atStart => exact ⟨a, b, ha, hb, rfl, rfl, rfl, 0, rfl⟩
  case round =>
    obtain ⟨x, y, hx, hy, rfl, rfl, hg, nw, rfl⟩ := hrel
    have HG := Lib.hid hg
    clear hg
    by_cases e : y = 0
    · subst e
      have hg := HG.out
      rw [Int.gcd_zero] at hg
      have HG := Lib.hid hg
      clear hg
      rcases Int.lt_or_le x 0 with h | h
      · go_wp2_with fail
        go_ret
        exact ⟨ret_int (by rw [← HG.out]; omega), nw, rfl⟩
      · go_wp2_with fail
        go_ret
        exact ⟨ret_int (by rw [← HG.out]; omega), nw, rfl⟩
    · have e1 : (y == 0) = false := by rw [beq_eq_false_iff_ne]; exact e
      have e2 : (y != 0) = true := by rw [bne_iff_ne]; exact e
      have ht := tmod_abs x y e
      have HT := Lib.hid ((gcd_tmod x y).trans HG.out)
      have hti : IntKind.i64.wrap (x.tmod y) = x.tmod y := IntWalk.i64_in _ (by omega)
      have HTI := Lib.hid hti
      clear hti
      go_wp2_with fail
      go_quiet (fail)
      go_wp2_with fail
      go_roundw
      case rel => exact ⟨y, x.tmod y, hy, by omega, rfl, rfl, HT.out, nw + nq, by rw [World.drewN_drewN]⟩
      case measure => exact ht
set_option maxHeartbeats 4000000 in
theorem order_any (n : Int) (P : Nat) (hP : isP P) (hn : n ≠ 0) (hb : n.natAbs ≤ 1000000000) (w : World) :
    Calls Try.prog 73 #[.int .i64 n, .int .i64 P] w fun e w' => e = .returned (.int .i64 (ord P n : Nat)) ∧ w = w' := by
  have h2 := hP.pos
  have h13 := leP hP
  go_enter Try.func73, Try.ntmps73
  go_wp2_with fail
  go_loop [0, 5] (fun u v => ∃ (x : Int) (k : Nat), u = .int .i64 x ∧ v = .int .i64 k ∧ x ≠ 0 ∧ n = (P : Int) ^ k * x ∧ k + x.natAbs ≤ n.natAbs) (fun u _ => (intOf u).natAbs)
  case atStart => exact ⟨n, 0, rfl, rfl, hn, by simp, by omega⟩
  case round =>
    obtain ⟨x, k, rfl, rfl, hx, he, hs⟩ := hrel
    have HE := Lib.hid he
    clear he
    by_cases e : (P : Int) ∣ x
    · obtain ⟨y, rfl⟩ := e
      have hy : y ≠ 0 := by rintro rfl; simp at hx
      have hya : 2 * y.natAbs ≤ ((P : Int) * y).natAbs := by
        rw [Int.natAbs_mul]; exact Nat.mul_le_mul_right _ (by omega)
      have e1 : ((P : Int) * y).tmod P = 0 := by rw [Int.mul_tmod_right]
      have e3 : ((P : Int) * y).tdiv P = y := Int.mul_tdiv_cancel_left _ (by omega)
      have HN := Lib.hid (show n = (P : Int) ^ (k + 1) * y by rw [HE.out, Int.pow_succ, Int.mul_assoc])
      clear hx
      generalize (P : Int) * y = z at *
      have E1 := Lib.hid e1
      have E3 := Lib.hid e3
      clear e1 e3
      have e1 : (z.tmod P == 0) = true := by rw [E1.out]; rfl
      go_wp2_with fail
      rw [E3.out]
      go_round
      case rel => exact ⟨y, k + 1, rfl, by go_num, hy, HN.out, by omega⟩
      case measure => simp [intOf]; omega
    · have e1 : (x.tmod P == 0) = false := by
        rw [beq_eq_false_iff_ne]; exact fun h => e (Int.dvd_of_tmod_eq_zero h)
      go_wp2_with fail
      go_ret
      exact ⟨ret_int (by rw [HE.out, Np.ord_eq h2 e]), rfl⟩
set_option maxHeartbeats 4000000 in
theorem rOrder_any (n : Int) (P : Nat) (hP : isP P) (hn : n ≠ 0) (hb : n.natAbs ≤ 1000000000) (w : World) :
    Calls Try.prog 66 #[.int .i64 n, .int .i64 P] w fun e w' => e = .returned (.int .i64 (ord P n : Nat)) ∧ w = w' := by
  have h2 := hP.pos
  have h13 := leP hP
  go_enter Try.func66, Try.ntmps66
  go_wp2_with fail
  go_loop [0, 5] (fun u v => ∃ (x : Int) (k : Nat), u = .int .i64 x ∧ v = .int .i64 k ∧ x ≠ 0 ∧ n = (P : Int) ^ k * x ∧ k + x.natAbs ≤ n.natAbs) (fun u _ => (intOf u).natAbs)
  case atStart => exact ⟨n, 0, rfl, rfl, hn, by simp, by omega⟩
  case round =>
    obtain ⟨x, k, rfl, rfl, hx, he, hs⟩ := hrel
    have HE := Lib.hid he
    clear he
    by_cases e : (P : Int) ∣ x
    · obtain ⟨y, rfl⟩ := e
      have hy : y ≠ 0 := by rintro rfl; simp at hx
      have hya : 2 * y.natAbs ≤ ((P : Int) * y).natAbs := by
        rw [Int.natAbs_mul]; exact Nat.mul_le_mul_right _ (by omega)
      have e1 : ((P : Int) * y).tmod P = 0 := by rw [Int.mul_tmod_right]
      have e3 : ((P : Int) * y).tdiv P = y := Int.mul_tdiv_cancel_left _ (by omega)
      have HN := Lib.hid (show n = (P : Int) ^ (k + 1) * y by rw [HE.out, Int.pow_succ, Int.mul_assoc])
      clear hx
      generalize (P : Int) * y = z at *
      have E1 := Lib.hid e1
      have E3 := Lib.hid e3
      clear e1 e3
      have e1 : (z.tmod P == 0) = true := by rw [E1.out]; rfl
      go_wp2_with fail
      rw [E3.out]
      go_round
      case rel => exact ⟨y, k + 1, rfl, by go_num, hy, HN.out, by omega⟩
      case measure => simp [intOf]; omega
    · have e1 : (x.tmod P == 0) = false := by
        rw [beq_eq_false_iff_ne]; exact fun h => e (Int.dvd_of_tmod_eq_zero h)
      go_wp2_with fail
      go_ret
      exact ⟨ret_int (by rw [HE.out, Np.ord_eq h2 e]), rfl⟩
theorem frc_div (a b : Int) : (frc a b).1 = a.tdiv (Int.gcd a b : Nat) ∧ (frc a b).2 = b.tdiv (Int.gcd a b : Nat) :=
  ⟨(Int.tdiv_eq_ediv_of_dvd (Int.gcd_dvd_left a b)).symm, (Int.tdiv_eq_ediv_of_dvd (Int.gcd_dvd_right a b)).symm⟩
set_option maxHeartbeats 4000000 in
theorem frac_any (a b : Int) (ha : a.natAbs ≤ 1000000) (hb0 : 0 < b) (hb : b ≤ 1000000) (w : World) :
    Calls Try.prog 80 #[.int .i64 a, .int .i64 b] w fun e w' => e = .returned (.agg #[.int .i64 (frc a b).1, .int .i64 (frc a b).2]) ∧ Below w.heap.size w w' := by
  have HD := Lib.hid (frc_div a b)
  have hg : 0 < Int.gcd a b := Int.gcd_pos_of_ne_zero_right _ (by omega)
  go_enter Try.func80, Try.ntmps80
  go_wp2_with fail
  with_reducible refine (gcd_any a b (by omega) (by omega) _).mono ?_
  rintro e w1 ⟨rfl, nw, rfl⟩
  have hg1 : (Int.gcd a b : Int) ≤ b := Int.gcd_le_right _ hb0
  have hx := (Np.frc_spec a b hb0)
  have hx1 := hx.1.1
  have hx2 := hx.2.2.1
  have hx3 := hx.2.2.2
  clear hx
  have h1 := HD.out.1.symm
  have h2 := HD.out.2.symm
  clear HD
  generalize Int.gcd a b = g at *
  obtain ⟨q, hq⟩ : ∃ q, q = frc a b := ⟨_, rfl⟩
  rw [← hq] at h1 h2 hx1 hx2 hx3
  have HQ := Lib.hid hq
  clear hq
  have hg2 : ((g : Int) == 0) = false := by rw [beq_eq_false_iff_ne]; omega
  have w1 : IntKind.i64.wrap q.1 = q.1 := IntWalk.i64_in _ (by omega)
  have w2 : IntKind.i64.wrap q.2 = q.2 := IntWalk.i64_in _ (by omega)
  go_wp2_with fail
  go_region
  all_goals (go_wp2_with fail)
  exact bodyPost_ret (v := .agg #[.int .i64 q.1, .int .i64 q.2]) (by simp [results, Try.results80, go_sem]) rfl ⟨by rw [HQ.out], ((below_drewN ((Below.refl _ _).alloc (Nat.le_refl _) _) _).setCell (Nat.le_refl _) _).setCell (Nat.le_refl _) _⟩
theorem gcd_nat (a : Int) : Int.gcd (max a (-a)) 0 = a.natAbs := by rw [Int.gcd_zero]; omega
theorem gcd_max (a b : Int) : Int.gcd (max a (-a)) b = Int.gcd a b := by
  rcases Int.le_total 0 a with h | h
  · rw [Int.max_eq_left (by omega)]
  · rw [Int.max_eq_right (by omega), Int.neg_gcd]
set_option maxHeartbeats 4000000 in
theorem rFrac_any (a b : Int) (ha : a.natAbs ≤ 1000000) (hb0 : 0 < b) (hb : b ≤ 1000000) (w : World) :
    Calls Try.prog 67 #[.int .i64 a, .int .i64 b] w fun e w' => e = .returned (.agg #[.int .i64 (frc a b).1, .int .i64 (frc a b).2]) ∧ Below w.heap.size w w' := by
  have HD := Lib.hid (frc_div a b)
  have hg : 0 < Int.gcd a b := Int.gcd_pos_of_ne_zero_right _ (by omega)
  go_enter Try.func67, Try.ntmps67
  have HM := Lib.hid (gcd_max a b)
  obtain ⟨m, hm⟩ : ∃ m, m = max a (-a) := ⟨_, rfl⟩
  rw [← hm] at HM
  have hm0 : 0 ≤ m := by omega
  have hm1 : m ≤ 1000000 := by omega
  have HMX := Lib.hid hm
  clear hm
  rcases Int.lt_or_le a 0 with hsg | hsg
  all_goals
    go_wp2_with fail
    go_loopw [5, 6] (fun u v wr => ∃ x y : Int, 0 ≤ x ∧ 0 ≤ y ∧ x ≤ 1000000 ∧ y ≤ 1000000 ∧ u = .int .i64 x ∧ v = .int .i64 y ∧ Int.gcd x y = Int.gcd a b ∧ ∃ q, wr = (w.alloc (.cells #[.int .i64 0, .int .i64 0] 64)).drewN q) (fun _ v _ => (intOf v).toNat)
    case atStart => exact ⟨_, b, by omega, by omega, by omega, hb, rfl, rfl, by first | (rw [← HM.out, HMX.out]; congr 1; omega) | (rw [← HM.out, HMX.out, Int.max_eq_left (by omega)]) | (rw [← HM.out, HMX.out, Int.max_eq_right (by omega)]), 0, rfl⟩
    case round =>
      obtain ⟨x, y, hx, hy, hx1, hy1, rfl, rfl, hgg, nw, rfl⟩ := hrel
      have HG := Lib.hid hgg
      clear hgg
      by_cases e : y = 0
      · subst e
        have hgg := HG.out
        rw [Int.gcd_zero] at hgg
        have hxg : x = (Int.gcd a b : Nat) := by omega
        have hg1 : (Int.gcd a b : Int) ≤ b := Int.gcd_le_right _ hb0
        have hqq := (Np.frc_spec a b hb0)
        have hq1 := hqq.1.1
        have hq2 := hqq.2.2.1
        have hq3 := hqq.2.2.2
        clear hqq
        have h1 := HD.out.1.symm
        have h2 := HD.out.2.symm
        have h3 : a / (Int.gcd a b : Nat) = (frc a b).1 := rfl
        have h4 : b / (Int.gcd a b : Nat) = (frc a b).2 := rfl
        rw [← hxg] at h1 h2 h3 h4 hg1
        have HXG := Lib.hid hxg
        clear HD hxg hgg
        obtain ⟨q, hq⟩ : ∃ q, q = frc a b := ⟨_, rfl⟩
        rw [← hq] at h1 h2 h3 h4 hq1 hq2 hq3
        have HQ := Lib.hid hq
        clear hq
        have hg2 : (x == 0) = false := by rw [beq_eq_false_iff_ne]; have := HXG.out; omega
        have hxp : 0 < x := by have := HXG.out; omega
        have hxn : x ≠ 0 := by omega
        have w1 : IntKind.i64.wrap q.1 = q.1 := IntWalk.i64_in _ (by omega)
        have w2 : IntKind.i64.wrap q.2 = q.2 := IntWalk.i64_in _ (by omega)
        go_wp2_with fail
        go_region
        all_goals (go_wp2_with fail)
        exact bodyPost_ret (v := .agg #[.int .i64 q.1, .int .i64 q.2]) (by simp [results, Try.results67, go_sem]) rfl ⟨by rw [HQ.out], ((below_drewN ((Below.refl _ _).alloc (Nat.le_refl _) _) _).setCell (Nat.le_refl _) _).setCell (Nat.le_refl _) _⟩
      · have e1 : (y == 0) = false := by rw [beq_eq_false_iff_ne]; exact e
        have e2 : (y != 0) = true := by rw [bne_iff_ne]; exact e
        have ht := tmod_abs x y e
        have hte : x.tmod y = x % y := Int.tmod_eq_emod_of_nonneg hx
        have ht0 : 0 ≤ x % y := Int.emod_nonneg _ e
        have HT := Lib.hid ((gcd_tmod x y).trans HG.out)
        have hlt := Int.emod_lt_of_pos x (show 0 < y by omega)
        have HTE := Lib.hid hte
        clear hte
        go_wp2_with fail
        go_quiet (fail)
        go_wp2_with fail
        go_roundw
        case rel => exact ⟨y, x % y, hy, ht0, hy1, by omega, rfl, rfl, by rw [← HTE.out]; exact HT.out, nw + nq, by rw [World.drewN_drewN]⟩
        case measure => show (x % y).toNat < y.toNat; omega
end Go.Proofs.Ytdkobkghhnccgaa
