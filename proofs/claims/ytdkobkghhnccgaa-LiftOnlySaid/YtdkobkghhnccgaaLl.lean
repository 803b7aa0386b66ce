/- Walks of Lift, of the program and of the reference. -/
import Derived.Test.YtdkobkghhnccgaaI
namespace Go.Proofs.Ytdkobkghhnccgaa
open Go.RowKit
/-- R is a root modulo the j-th power, above r -/
def IsLift (f : List Int) (P : Nat) (r : Int) (j : Nat) (R : Int) : Prop := 0 ≤ R ∧ R < pn P j ∧ ev f R % (pn P j : Nat) = 0 ∧ R % P = r
/-- r is a simple root modulo P -/
def Simple (f : List Int) (P : Nat) (r : Int) : Prop := 0 ≤ r ∧ r < P ∧ ev f r % P = 0 ∧ ev (dv f) r % P ≠ 0
theorem lift_ex {f : List Int} {P : Nat} {r : Int} (hP : isP P) (h : Simple f P r) (j : Nat) (hj : 1 ≤ j) : ∃ R, IsLift f P r j R ∧ ∀ x, IsLift f P r j x → x = R := by
  obtain ⟨h0, h1, h2, h3⟩ := h
  rw [ev_dv] at h3
  obtain ⟨R, a, b, c, d, e⟩ := lift_one hP f r h0 h1 h2 h3 (j - 1)
  rw [show j - 1 + 1 = j by omega] at b c e
  exact ⟨R, ⟨a, b, c, d⟩, fun x hx => e x hx.1 hx.2.1 hx.2.2.1 hx.2.2.2⟩
theorem lift_step {f : List Int} {P : Nat} {r : Int} (hP : isP P) (h : Simple f P r) (j : Nat) (hj : 1 ≤ j) (R : Int) (hR : IsLift f P r j R) :
    ∃ t : Nat, t < P ∧ IsLift f P r (j + 1) (R + t * pn P j) ∧ ∀ u : Nat, u < P → ev f (R + u * pn P j) % ((pn P j * P : Nat) : Int) = 0 → u = t := by
  have h2 := hP.pos
  have hm := pn_pos (show 0 < P by omega) j
  have hpm : (P : Int) ∣ (pn P j : Nat) := by have := pn_dvd P 1 j hj; rwa [pn_one] at this
  have hd : de f.tail 1 R % P ≠ 0 := by
    rw [emod_eq_of_dvd_sub (de_congr f.tail 1 R r P ?_)]
    · rw [← ev_dv]; exact h.2.2.2
    · have := Int.emod_add_mul_ediv R P
      exact ⟨R / P, by have := hR.2.2.2; omega⟩
  obtain ⟨t, a, b, c⟩ := hensel hP f _ hm hpm R hR.2.2.1 hd
  refine ⟨t, a, ⟨?_, ?_, b, ?_⟩, c⟩
  · have e1 : ((t * pn P j : Nat) : Int) = (t : Int) * (pn P j : Nat) := by simp
    have := hR.1
    omega
  · have : (t + 1) * pn P j ≤ pn P j * P := by rw [Nat.mul_comm (pn P j) P]; exact Nat.mul_le_mul_right _ a
    rw [Nat.add_mul, Nat.one_mul] at this
    have e1 : ((t * pn P j : Nat) : Int) = (t : Int) * (pn P j : Nat) := by simp
    have := hR.2.1
    have e2 : pn P (j + 1) = pn P j * P := rfl
    rw [e2]
    omega
  · obtain ⟨c, hc⟩ := hpm
    rw [← hR.2.2.2]
    apply emod_eq_of_dvd_sub
    exact ⟨t * c, by rw [hc]; simp only [Int.mul_left_comm]; omega⟩
theorem dv_coefs {f : List Int} (h : Poly f) : Coefs (dv f) := by
  intro k hk
  have hl : (dv f).length = f.length - 1 := dvk_length _ _
  rw [hl] at hk
  have h7 := h.2.2.1
  have a := h.1 (k + 1) (by omega)
  have e : (dv f).getD k 0 = f.getD (k + 1) 0 * ((k : Int) + 1) := by
    unfold dv dvk
    simp [List.getD, hk]
  rw [e]
  have : k = 0 ∨ k = 1 ∨ k = 2 ∨ k = 3 ∨ k = 4 ∨ k = 5 := by omega
  generalize f.getD (k + 1) 0 = y at *
  rcases this with rfl | rfl | rfl | rfl | rfl | rfl <;> simp <;> omega
theorem dv_len {f : List Int} (h : Poly f) : (dv f).length ≤ 6 := by
  have hl : (dv f).length = f.length - 1 := dvk_length _ _
  have := h.2.2.1
  omega
set_option maxRecDepth 100000 in
set_option maxHeartbeats 16000000 in
theorem Lift_yes (base : Nat) (v : Value) (f : List Int) (P K : Nat) (hP : isP P) (hK : 1 ≤ K) (hq : pn P K ≤ 20000) (hf : Poly f) (r : Int) (hs : Simple f P r) (R : Int) (hR : ∀ x, IsLift f P r K x → x = R) (w : World) (hv : Own w base v f) :
    Calls Try.prog 28 #[v, .int .i64 P, .int .i64 K, .int .i64 r] w fun e w' => e = .returned (.tuple #[.int .i64 R, .int .i64 0]) ∧ Below w.heap.size w w' := by
  have HV := Lib.hid hv
  have HF := Lib.hid hf
  have HC := Lib.hid (show ∀ k, k < f.length → -10000000 ≤ f.getD k 0 ∧ f.getD k 0 ≤ 10000000 from hf.coefs)
  have HCD := Lib.hid (show ∀ k, k < (dv f).length → -10000000 ≤ (dv f).getD k 0 ∧ (dv f).getD k 0 ≤ 10000000 from dv_coefs hf)
  have HP := Lib.hid hP
  have HS := Lib.hid hs
  have HR := Lib.hid hR
  have h2 := hP.pos
  have h13 := hP.le
  have hK14 := pn_k h2 hq
  have hl7 := hf.2.2.1
  have hl2 := hf.2.1
  have hdl := dv_len hf
  have hr0 := hs.1
  have hr1 := hs.2.1
  have hz0 : (ev f r % (P : Int) != 0) = false := by rw [bne_eq_false_iff_eq]; exact hs.2.2.1
  have hz1 : (ev (dv f) r % (P : Int) == 0) = false := by rw [beq_eq_false_iff_ne]; exact hs.2.2.2
  have HM := Lib.hid (fun i (hi : i ≤ K) => (Nat.le_trans (pn_mono (p := P) (by omega) i K hi) hq : pn P i ≤ 20000))
  have HQ := Lib.hid hq
  have d1 : decide (r < 0) = false := decide_eq_false (by omega)
  have d2 : decide ((P : Int) ≤ r) = false := decide_eq_false (by omega)
  have h1K := HM.out 1 hK
  rw [pn_one] at h1K
  obtain ⟨A0, n0, c0, rfl⟩ := hv.isSlice
  clear hP hs hR hq hf
  go_enter Try.func28, Try.ntmps28
  go_wp2_with fail
  refine (power_yes P K HP.out hK HQ.out _).mono ?_
  rintro e w1 ⟨rfl, b1⟩
  have HV1 := Lib.hid (HV.out.same (fun b _ hlt => b1.block b hlt))
  clear hv
  go_wp2_with fail
  refine (valid_any base _ f true (by simp; exact HF.out) _ HV1.out).mono ?_
  rintro e _ ⟨rfl, rfl⟩
  go_wp2_with fail
  with_reducible refine (at_any _ f r (P : Int) hr0 (by omega) (by omega) (by omega) HC.out _ (HV1.out.ints (by omega))).mono ?_
  rintro e _ ⟨rfl, rfl⟩
  go_wp2_with fail
  refine (derivative_any base _ f hl2 hl7 HF.out.1 _ HV1.out).mono ?_
  rintro e w2 ⟨vd, rfl, od, b2⟩
  have HD := Lib.hid (od.ints (by omega))
  have HV2 := Lib.hid (HV1.out.same (fun b _ hlt => b2.block b hlt))
  have HB := Lib.hid (b1.trans (b2.mono b1.size))
  clear od b1 b2
  go_wp2_with fail
  with_reducible refine (at_any _ (dv f) r (P : Int) hr0 (by omega) (by omega) (by omega) HCD.out _ HD.out).mono ?_
  rintro e _ ⟨rfl, rfl⟩
  have HVI := Lib.hid (HV2.out.ints (by omega))
  go_wp2_with fail
  clear d1 d2 hz0 hz1
  have HS1 := Lib.hid (show IsLift f P r 1 r from ⟨hr0, by rw [pn_one]; exact hr1, by rw [pn_one]; exact HS.out.2.2.1, Int.emod_eq_of_lt hr0 hr1⟩)
  go_loop [3, 13, 53] (fun x m i => ∃ (j : Nat) (Rj : Int), j + 1 ≤ K ∧ i = .int .i64 j ∧ x = .int .i64 Rj ∧ m = .int .i64 (pn P (j + 1) : Nat) ∧ IsLift f P r (j + 1) Rj) (fun _ _ i => K - 1 - (intOf i).toNat)
  case atStart => exact ⟨0, r, hK, rfl, rfl, by rw [pn_one], HS1.out⟩
  case round =>
    obtain ⟨j, Rj, hj, rfl, rfl, rfl, hl⟩ := hrel
    have HL := Lib.hid hl
    clear hl
    by_cases hlt : j + 1 < K
    · obtain ⟨t, ht, ht2, ht3⟩ := lift_step HP.out HS.out (j + 1) (by omega) Rj HL.out
      have HT2 := Lib.hid ht2
      have HT3 := Lib.hid ht3
      have HLT := Lib.hid hlt
      have hRj0 := HL.out.1
      have hRj1 := HL.out.2.1
      have hm1 := HM.out (j + 1 + 1) hlt
      have hm0 := HM.out (j + 1) (by omega)
      have hmp := pn_pos (show 0 < P by omega) (j + 1)
      have HPN := Lib.hid (show pn P (j + 1 + 1) = pn P (j + 1) * P from rfl)
      have HE := Lib.hid (show ((pn P (j + 1) : Nat) : Int) * (P : Int) = ((pn P (j + 1) * P : Nat) : Int) by simp)
      have hpb := prod_bd hm0 h13
      have hpb1 := hpb.1
      have hpb2 := hpb.2
      rw [HPN.out] at hm1
      have hxr := ht2.2.1
      rw [HPN.out] at hxr
      clear ht2 ht3 hpb
      generalize hM : pn P (j + 1) = M at *
      have HMM := Lib.hid hM
      clear hM
      have hmp1 : 1 ≤ (M : Int) * (P : Int) := by rw [HE.out]; have := Nat.mul_pos hmp (show 0 < P by omega); omega
      have hmp2 : (M : Int) * (P : Int) ≤ 1000000 := by rw [HE.out]; omega
      have dj : decide ((j : Int) < (K : Int) - 1) = true := decide_eq_true (by omega)
      go_wp2_with fail
      go_loop [3] (fun x => ∃ u : Nat, u ≤ t ∧ x = .int .i64 (Rj + (u : Int) * (M : Int))) (fun x => (Rj + (t : Int) * (M : Int) - intOf x).toNat)
      case atStart => exact ⟨0, by omega, by simp⟩
      case round =>
        obtain ⟨u, hu, rfl⟩ := hrel
        have huM : (u : Int) * M ≤ (t : Int) * M := Int.mul_le_mul_of_nonneg_right (by omega) (by omega)
        have hu0 : 0 ≤ (u : Int) * M := Int.mul_nonneg (by omega) (by omega)
        by_cases hut : u = t
        · subst hut
          have hz : (ev f (Rj + (u : Int) * (M : Int)) % ((M : Int) * (P : Int)) != 0) = false := by
            rw [bne_eq_false_iff_eq, HE.out]
            have := HT2.out.2.2.1
            rw [HPN.out] at this
            exact this
          go_wp2_with fail
          with_reducible refine (at_any _ f (Rj + (u : Int) * (M : Int)) ((M : Int) * (P : Int)) (by omega) (by omega) hmp1 hmp2 HC.out _ HVI.out).mono ?_
          rintro e _ ⟨rfl, rfl⟩
          go_wp2_with fail
          go_round
          case rel => exact ⟨j + 1, Rj + (u : Int) * (M : Int), HLT.out, by go_num, rfl, by rw [HPN.out, ← HE.out], HT2.out⟩
          case measure => have := HLT.out; simp [intOf]; omega
        · have hz : (ev f (Rj + (u : Int) * (M : Int)) % ((M : Int) * (P : Int)) != 0) = true := by
            rw [bne_iff_ne, HE.out]
            intro h
            exact hut (HT3.out u (by omega) h)
          have hus : (u : Int) * M + M ≤ (t : Int) * M := by
            have : ((u : Int) + 1) * M ≤ (t : Int) * M := Int.mul_le_mul_of_nonneg_right (by omega) (by omega)
            rw [Int.add_mul, Int.one_mul] at this
            exact this
          have HUS := Lib.hid (show (((u + 1 : Nat) : Int) * (M : Int)) = (u : Int) * M + M by rw [Int.natCast_add, Int.add_mul]; simp)
          go_wp2_with fail
          with_reducible refine (at_any _ f (Rj + (u : Int) * (M : Int)) ((M : Int) * (P : Int)) (by omega) (by omega) hmp1 hmp2 HC.out _ HVI.out).mono ?_
          rintro e _ ⟨rfl, rfl⟩
          go_wp2_with fail
          go_round
          case rel => exact ⟨u + 1, by omega, by rw [HUS.out]; congr 1; omega⟩
          case measure => simp [intOf]; omega
    · obtain rfl : K = j + 1 := by omega
      have HRR := Lib.hid (HR.out Rj HL.out)
      have dj : decide ((j : Int) < ((j + 1 : Nat) : Int) - 1) = false := decide_eq_false (by omega)
      go_wp2_with fail
      go_ret2
      exact ⟨by rw [HRR.out]; rfl, HB.out⟩
end Go.Proofs.Ytdkobkghhnccgaa
