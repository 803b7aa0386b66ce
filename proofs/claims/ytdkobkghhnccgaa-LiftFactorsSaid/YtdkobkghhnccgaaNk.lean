/- Walk of LiftWhole. -/
import Derived.Test.YtdkobkghhnccgaaNj
namespace Go.Proofs.Ytdkobkghhnccgaa
open Go.RowKit
open Np (frc Red ord Prm fle flt cf nz od Sides Sd Pg slopes)
theorem lin_poly {x : Int} (h1 : -100 ≤ x) (h2 : x ≤ 100) : Poly [-x, 1] := by
  refine ⟨fun k hk => ?_, by simp, by simp, by simp⟩
  match k, hk with
  | 0, _ => simp; omega
  | 1, _ => simp
  | k + 2, hk => exact absurd hk (by simp)
set_option maxHeartbeats 4000000 in
theorem whole_low (v : Value) (f : List Int) (p x : Int) (h : x < -100) (w : World) (hv : Ints w v f) :
    Calls Try.prog 14 #[v, .int .i64 p, .int .i64 x] w fun e w' => e = .returned (.bool true) ∧ Below w.heap.size w w' := by
  have HB := Lib.hid (Below.refl w.heap.size w)
  have d1 : decide (x < -100) = true := decide_eq_true h
  clear h
  obtain ⟨A, c, hvv⟩ : ∃ A c, v = .slice A f.length c := by obtain ⟨_, A, c, h, _⟩ := hv; exact ⟨A, c, h⟩
  subst hvv
  clear hv
  go_enter Try.func14, Try.ntmps14
  go_wp2_with fail
  with_reducible refine (awake_any _).mono ?_
  rintro e wz ⟨rfl, hbz⟩
  go_wp2_with fail
  go_ret
  exact ⟨rfl, HB.out.trans (hbz.mono HB.out.size)⟩
set_option maxHeartbeats 4000000 in
theorem whole_high (v : Value) (f : List Int) (p x : Int) (h : 100 < x) (w : World) (hv : Ints w v f) :
    Calls Try.prog 14 #[v, .int .i64 p, .int .i64 x] w fun e w' => e = .returned (.bool true) ∧ Below w.heap.size w w' := by
  have HB := Lib.hid (Below.refl w.heap.size w)
  have d1 : decide (x < -100) = false := decide_eq_false (by omega)
  have d2 : decide (100 < x) = true := decide_eq_true h
  clear h
  obtain ⟨A, c, hvv⟩ : ∃ A c, v = .slice A f.length c := by obtain ⟨_, A, c, h, _⟩ := hv; exact ⟨A, c, h⟩
  subst hvv
  clear hv
  go_enter Try.func14, Try.ntmps14
  go_wp2_with fail
  with_reducible refine (awake_any _).mono ?_
  rintro e wz ⟨rfl, hbz⟩
  go_wp2_with fail
  go_ret
  exact ⟨rfl, HB.out.trans (hbz.mono HB.out.size)⟩
set_option maxHeartbeats 4000000 in
theorem whole_zero (v : Value) (f : List Int) (p x : Int) (h : x = 0) (w : World) (hv : Ints w v f) :
    Calls Try.prog 14 #[v, .int .i64 p, .int .i64 x] w fun e w' => e = .returned (.bool true) ∧ Below w.heap.size w w' := by
  have HB := Lib.hid (Below.refl w.heap.size w)
  subst h
  have d1 : decide ((0 : Int) < -100) = false := rfl
  have d2 : decide ((100 : Int) < 0) = false := rfl
  obtain ⟨A, c, hvv⟩ : ∃ A c, v = .slice A f.length c := by obtain ⟨_, A, c, h, _⟩ := hv; exact ⟨A, c, h⟩
  subst hvv
  clear hv
  go_enter Try.func14, Try.ntmps14
  go_wp2_with fail
  with_reducible refine (awake_any _).mono ?_
  rintro e wz ⟨rfl, hbz⟩
  go_wp2_with fail
  go_ret
  exact ⟨rfl, HB.out.trans (hbz.mono HB.out.size)⟩
set_option maxRecDepth 100000 in
set_option maxHeartbeats 8000000 in
theorem whole_err (v : Value) (f : List Int) (p x : Int) (h1 : -100 ≤ x) (h2 : x ≤ 100) (h0 : x ≠ 0) (h : ¬ Poly f ∨ (Poly f ∧ ¬ Poly (times f [-x, 1]))) (w : World) (hv : Ints w v f) :
    Calls Try.prog 14 #[v, .int .i64 p, .int .i64 x] w fun e w' => e = .returned (.bool true) ∧ Below w.heap.size w w' := by
  have HV := Lib.hid hv
  have HB := Lib.hid (Below.refl w.heap.size w)
  have d1 : decide (x < -100) = false := decide_eq_false (by omega)
  have d2 : decide (100 < x) = false := decide_eq_false (by omega)
  have d3 : (x == 0) = false := by rw [beq_eq_false_iff_ne]; exact h0
  have HX0 := Lib.hid h0
  clear h0
  have HT := Lib.hid (fun (b1 b2 : Nat) (u1 u2 : Value) (W : World) (hu1 : Own W b1 u1 (f.take 9)) (hu2 : Own W b2 u2 [-x, 1]) => show Calls Try.prog 25 #[u1, u2] W fun e w' => e = .returned (.tuple #[.slice none 0 0, .int .i64 2]) ∧ Below W.heap.size W w' from by
    rcases h with h | ⟨h3, h4⟩
    · exact Times_bad b1 b2 u1 u2 _ _ (fun e => h (Poly.take.1 e.1)) W hu1 hu2
    · have e1 : f.take 9 = f := List.take_of_length_le (by have := h3.2.2.1; omega)
      rw [e1] at hu1
      exact Times_no b1 b2 u1 u2 f [-x, 1] h3 (lin_poly h1 h2) h4 W hu1 hu2)
  clear h
  obtain ⟨A, c, hvv⟩ : ∃ A c, v = .slice A f.length c := by obtain ⟨_, A, c, h, _⟩ := hv; exact ⟨A, c, h⟩
  subst hvv
  clear hv
  go_enter Try.func14, Try.ntmps14
  go_wp2_with fail
  with_reducible refine (list_any _ f _ HV.out).mono ?_
  rintro e w1 ⟨va, rfl, ho, hb⟩
  have HS := Lib.hid hb
  have HB := Lib.hid (HB.out.trans (hb.mono HB.out.size))
  have HV := Lib.hid (HV.out.keep HS.out)
  have HO := Lib.hid ho
  obtain ⟨A1, n1, c1, rfl⟩ := ho.isSlice
  clear hb ho
  have HOL := Lib.hid (HO.out.alloc (.cells #[.int .i64 (-x), .int .i64 1] 3))
  have HLI := Lib.hid (Own.lit w1 0 (Nat.zero_le _) #[.int .i64 (-x), .int .i64 1] [-x, 1] 2 rfl rfl (by simp))
  have HBA := Lib.hid (HB.out.alloc HB.out.size (.cells #[.int .i64 (-x), .int .i64 1] 3))
  have HVA := Lib.hid (HV.out.keep ((Below.refl _ w1).alloc (Nat.le_refl _) (.cells #[.int .i64 (-x), .int .i64 1] 3)))
  have HB := HBA
  have HV := HVA
  go_wp2_with fail
  with_reducible refine (HT.out _ _ _ _ _ HOL.out HLI.out).mono ?_
  rintro e w2 ⟨rfl, hb⟩
  have HS := Lib.hid hb
  have HB := Lib.hid (HB.out.trans (hb.mono HB.out.size))
  have HV := Lib.hid (HV.out.keep HS.out)
  clear hb
  go_wp2_with fail
  with_reducible refine (awake_any _).mono ?_
  rintro e wz ⟨rfl, hbz⟩
  go_wp2_with fail
  go_ret
  exact ⟨rfl, HB.out.trans (hbz.mono HB.out.size)⟩
set_option maxRecDepth 100000 in
set_option maxHeartbeats 8000000 in
theorem whole_odd (v : Value) (f : List Int) (p x : Int) (h1 : -100 ≤ x) (h2 : x ≤ 100) (h0 : x ≠ 0) (hf : Poly f) (ht : Poly (times f [-x, 1])) (hp : ¬ PrimeI p) (w : World) (hv : Ints w v f) :
    Calls Try.prog 14 #[v, .int .i64 p, .int .i64 x] w fun e w' => e = .returned (.bool true) ∧ Below w.heap.size w w' := by
  have HV := Lib.hid hv
  have HB := Lib.hid (Below.refl w.heap.size w)
  have d1 : decide (x < -100) = false := decide_eq_false (by omega)
  have d2 : decide (100 < x) = false := decide_eq_false (by omega)
  have d3 : (x == 0) = false := by rw [beq_eq_false_iff_ne]; exact h0
  have HX0 := Lib.hid h0
  clear h0
  have HT := Lib.hid (fun (b1 b2 : Nat) (u1 u2 : Value) (W : World) (hu1 : Own W b1 u1 (f.take 9)) (hu2 : Own W b2 u2 [-x, 1]) => show Calls Try.prog 25 #[u1, u2] W fun e w' => ∃ v', e = .returned (.tuple #[v', .int .i64 0]) ∧ Own w' W.heap.size v' (times f [-x, 1]) ∧ Below W.heap.size W w' from by
    have e1 : f.take 9 = f := List.take_of_length_le (by have := hf.2.2.1; omega)
    rw [e1] at hu1
    exact Times_yes b1 b2 u1 u2 f [-x, 1] hf (lin_poly h1 h2) ht W hu1 hu2)
  have HSN := Lib.hid (fun (b : Nat) (u : Value) (W : World) hu => Slopes_no b u (times f [-x, 1]) p (fun e => hp e.2) W hu)
  clear hf ht hp
  obtain ⟨A, c, hvv⟩ : ∃ A c, v = .slice A f.length c := by obtain ⟨_, A, c, h, _⟩ := hv; exact ⟨A, c, h⟩
  subst hvv
  clear hv
  go_enter Try.func14, Try.ntmps14
  go_wp2_with fail
  with_reducible refine (list_any _ f _ HV.out).mono ?_
  rintro e w1 ⟨va, rfl, ho, hb⟩
  have HS := Lib.hid hb
  have HB := Lib.hid (HB.out.trans (hb.mono HB.out.size))
  have HV := Lib.hid (HV.out.keep HS.out)
  have HO := Lib.hid ho
  obtain ⟨A1, n1, c1, rfl⟩ := ho.isSlice
  clear hb ho
  have HOL := Lib.hid (HO.out.alloc (.cells #[.int .i64 (-x), .int .i64 1] 3))
  have HLI := Lib.hid (Own.lit w1 0 (Nat.zero_le _) #[.int .i64 (-x), .int .i64 1] [-x, 1] 2 rfl rfl (by simp))
  have HBA := Lib.hid (HB.out.alloc HB.out.size (.cells #[.int .i64 (-x), .int .i64 1] 3))
  have HVA := Lib.hid (HV.out.keep ((Below.refl _ w1).alloc (Nat.le_refl _) (.cells #[.int .i64 (-x), .int .i64 1] 3)))
  have HB := HBA
  have HV := HVA
  go_wp2_with fail
  with_reducible refine (HT.out _ _ _ _ _ HOL.out HLI.out).mono ?_
  rintro e w2 ⟨v7, rfl, ho, hb⟩
  have HS := Lib.hid hb
  have HB := Lib.hid (HB.out.trans (hb.mono HB.out.size))
  have HV := Lib.hid (HV.out.keep HS.out)
  have HOT := Lib.hid ho
  obtain ⟨A2, n2, c2, rfl⟩ := ho.isSlice
  clear hb ho
  go_wp2_with fail
  with_reducible refine (HSN.out _ _ _ HOT.out).mono ?_
  rintro e w3 ⟨rfl, hb⟩
  have HS := Lib.hid hb
  have HB := Lib.hid (HB.out.trans (hb.mono HB.out.size))
  have HV := Lib.hid (HV.out.keep HS.out)
  clear hb
  go_wp2_with fail
  with_reducible refine (awake_any _).mono ?_
  rintro e wz ⟨rfl, hbz⟩
  go_wp2_with fail
  go_ret
  exact ⟨rfl, HB.out.trans (hbz.mono HB.out.size)⟩
set_option maxRecDepth 100000 in
set_option maxHeartbeats 8000000 in
theorem whole_yes (v : Value) (f : List Int) (P : Nat) (x : Int) (h1 : -100 ≤ x) (h2 : x ≤ 100) (h0 : x ≠ 0) (hf : Poly f) (ht : Poly (times f [-x, 1])) (hP : isP P) (w : World) (hv : Ints w v f) :
    Calls Try.prog 14 #[v, .int .i64 P, .int .i64 x] w fun e w' => e = .returned (.bool true) ∧ Below w.heap.size w w' := by
  have HV := Lib.hid hv
  have HB := Lib.hid (Below.refl w.heap.size w)
  have d1 : decide (x < -100) = false := decide_eq_false (by omega)
  have d2 : decide (100 < x) = false := decide_eq_false (by omega)
  have d3 : (x == 0) = false := by rw [beq_eq_false_iff_ne]; exact h0
  have HX0 := Lib.hid h0
  clear h0
  have HT := Lib.hid (fun (b1 b2 : Nat) (u1 u2 : Value) (W : World) (hu1 : Own W b1 u1 (f.take 9)) (hu2 : Own W b2 u2 [-x, 1]) => show Calls Try.prog 25 #[u1, u2] W fun e w' => ∃ v', e = .returned (.tuple #[v', .int .i64 0]) ∧ Own w' W.heap.size v' (times f [-x, 1]) ∧ Below W.heap.size W w' from by
    have e1 : f.take 9 = f := List.take_of_length_le (by have := hf.2.2.1; omega)
    rw [e1] at hu1
    exact Times_yes b1 b2 u1 u2 f [-x, 1] hf (lin_poly h1 h2) ht W hu1 hu2)
  have HPR := Lib.hid (fun W => rPrime_any (P : Int) true (by simp [isP_int, hP]) W)
  have HSY := Lib.hid (fun (b : Nat) (u : Value) (W : World) hu => Slopes_yes b u (times f [-x, 1]) ht P hP W hu)
  have HRS := Lib.hid (fun (C : List Sd) hC => Np.root_slope hP.prm HX0.out hf.last (by have := hf.2.1; omega) (times_prod f [-x, 1] (by have := hf.2.1; omega) (by simp)) (C := C) hC)
  have HSL := Lib.hid (fun (C : List Sd) (hC : Pg P (times f [-x, 1]) C) => show (slopes C).length ≤ 1000 by
    have := slopes_le (fun s hs => (pg_bd hP ht hC s hs).2.1) C.length (Nat.le_refl _)
    rw [List.take_length] at this
    have := pg_len hC
    have := ht.2.2.1
    omega)
  have h2P := hP.pos
  have h13 := leP hP
  clear hf ht
  obtain ⟨A, c, hvv⟩ : ∃ A c, v = .slice A f.length c := by obtain ⟨_, A, c, h, _⟩ := hv; exact ⟨A, c, h⟩
  subst hvv
  clear hv
  go_enter Try.func14, Try.ntmps14
  go_wp2_with fail
  with_reducible refine (list_any _ f _ HV.out).mono ?_
  rintro e w1 ⟨va, rfl, ho, hb⟩
  have HS := Lib.hid hb
  have HB := Lib.hid (HB.out.trans (hb.mono HB.out.size))
  have HV := Lib.hid (HV.out.keep HS.out)
  have HO := Lib.hid ho
  obtain ⟨A1, n1, c1, rfl⟩ := ho.isSlice
  clear hb ho
  have HOL := Lib.hid (HO.out.alloc (.cells #[.int .i64 (-x), .int .i64 1] 3))
  have HLI := Lib.hid (Own.lit w1 0 (Nat.zero_le _) #[.int .i64 (-x), .int .i64 1] [-x, 1] 2 rfl rfl (by simp))
  have HBA := Lib.hid (HB.out.alloc HB.out.size (.cells #[.int .i64 (-x), .int .i64 1] 3))
  have HVA := Lib.hid (HV.out.keep ((Below.refl _ w1).alloc (Nat.le_refl _) (.cells #[.int .i64 (-x), .int .i64 1] 3)))
  have HB := HBA
  have HV := HVA
  go_wp2_with fail
  with_reducible refine (HT.out _ _ _ _ _ HOL.out HLI.out).mono ?_
  rintro e w2 ⟨v7, rfl, ho, hb⟩
  have HS := Lib.hid hb
  have HB := Lib.hid (HB.out.trans (hb.mono HB.out.size))
  have HV := Lib.hid (HV.out.keep HS.out)
  have HOT := Lib.hid ho
  obtain ⟨A2, n2, c2, rfl⟩ := ho.isSlice
  clear hb ho
  go_wp2_with fail
  with_reducible refine (HSY.out _ _ _ HOT.out).mono ?_
  rintro e w3 ⟨v8, L, rfl, hr, hpg, hb⟩
  have HS := Lib.hid hb
  have HB := Lib.hid (HB.out.trans (hb.mono HB.out.size))
  have HV := Lib.hid (HV.out.keep HS.out)
  have HR := Lib.hid hr
  have HPG := Lib.hid hpg
  obtain ⟨A3, c3, rfl⟩ := hr.form
  clear hb hr hpg
  go_wp2_with fail
  with_reducible refine (HPR.out _).mono ?_
  rintro e _ ⟨rfl, rfl⟩
  go_wp2_with fail
  go_loop [10, 11] (fun u v => ∃ (y : Int) (k : Nat), v = .int .i64 y ∧ u = .int .i64 k ∧ y ≠ 0 ∧ x = (P : Int) ^ k * y ∧ k + y.natAbs ≤ x.natAbs) (fun _ v => (intOf v).natAbs)
  case atStart => exact ⟨x, 0, rfl, rfl, HX0.out, by simp, by omega⟩
  case round =>
    obtain ⟨y, k, rfl, rfl, hy, he, hs⟩ := hrel
    have HE := Lib.hid he
    clear he
    by_cases e : (P : Int) ∣ y
    · obtain ⟨z, rfl⟩ := e
      have hz : z ≠ 0 := by rintro rfl; simp at hy
      have hza : 2 * z.natAbs ≤ ((P : Int) * z).natAbs := by
        rw [Int.natAbs_mul]; exact Nat.mul_le_mul_right _ (by omega)
      have e1 : ((P : Int) * z).tmod P = 0 := by rw [Int.mul_tmod_right]
      have e3 : ((P : Int) * z).tdiv P = z := Int.mul_tdiv_cancel_left _ (by omega)
      have HN := Lib.hid (show x = (P : Int) ^ (k + 1) * z by rw [HE.out, Int.pow_succ, Int.mul_assoc])
      clear hy
      generalize (P : Int) * z = q at *
      have E1 := Lib.hid e1
      have E3 := Lib.hid e3
      clear e1 e3
      have e1 : (q.tmod P == 0) = true := by rw [E1.out]; rfl
      go_wp2_with fail
      rw [E3.out]
      go_round
      case rel => exact ⟨z, k + 1, rfl, by go_num, hz, HN.out, by omega⟩
      case measure => simp [intOf]; omega
    · have e1 : (y.tmod P == 0) = false := by
        rw [beq_eq_false_iff_ne]; exact fun h => e (Int.dvd_of_tmod_eq_zero h)
      have HK := Lib.hid (show ord P x = k by rw [HE.out, Np.ord_eq h2P e])
      have HMEM := Lib.hid (HRS.out L HPG.out)
      rw [HK.out] at HMEM
      go_wp2_with fail
      with_reducible refine (contains_yes _ _ (slopes L) (-(k : Int), 1) HMEM.out (HSL.out L HPG.out) _ HR.out).mono ?_
      rintro e wc ⟨rfl, hb⟩
      have HB := Lib.hid (HB.out.trans (hb.mono HB.out.size))
      clear hb
      go_wp2_with fail
      with_reducible refine (awake_any _).mono ?_
      rintro e wz ⟨rfl, hbz⟩
      go_wp2_with fail
      go_ret
      exact ⟨rfl, HB.out.trans (hbz.mono HB.out.size)⟩
theorem liftWhole_walk (w : World) (v : Value) (f : List Int) (hv : Ints w v f) (_ : ∀ n ∈ f, -9223372036854775808 ≤ n ∧ n ≤ 9223372036854775807) (p : Int) (_ : -9223372036854775808 ≤ p ∧ p ≤ 9223372036854775807) (x : Int) (_ : -9223372036854775808 ≤ x ∧ x ≤ 9223372036854775807) :
    Calls Try.prog 14 #[v, .int .i64 p, .int .i64 x] w fun e w' => e = .returned (.bool true) ∧ Below w.heap.size w w' := by
  by_cases h1 : x < -100
  · exact whole_low v f p x h1 w hv
  by_cases h2 : 100 < x
  · exact whole_high v f p x h2 w hv
  by_cases h0 : x = 0
  · exact whole_zero v f p x h0 w hv
  by_cases hf : Poly f
  · by_cases ht : Poly (times f [-x, 1])
    · by_cases hp : PrimeI p
      · obtain ⟨P, rfl, hP⟩ := hp.nat
        exact whole_yes v f P x (by omega) (by omega) h0 hf ht hP w hv
      · exact whole_odd v f p x (by omega) (by omega) h0 hf ht hp w hv
    · exact whole_err v f p x (by omega) (by omega) h0 (.inr ⟨hf, ht⟩) w hv
  · exact whole_err v f p x (by omega) (by omega) h0 (.inl hf) w hv
end Go.Proofs.Ytdkobkghhnccgaa
