/- The walks of LiftRoots and LiftOnly. -/
import Derived.Test.YtdkobkghhnccgaaLr
namespace Go.Proofs.Ytdkobkghhnccgaa
open Go.RowKit
theorem mem_contains {l : List Int} {x : Int} (h : x ∈ l) : l.contains x = true := by simpa using h
theorem not_contains {l : List Int} {x : Int} (h : ¬ x ∈ l) : l.contains x = false := by simpa using h
theorem LiftOk.take {f : List Int} {p k r : Int} (h : LiftOk (f.take 9) p k r) : LiftOk f p k r := by
  have hf := Poly.take.1 h.2.1
  have e : f.take 9 = f := List.take_of_length_le (by have := hf.2.2.1; omega)
  rw [e] at h; exact h
set_option maxRecDepth 100000 in
set_option maxHeartbeats 16000000 in
theorem liftRoots_bad (v : Value) (f : List Int) (p k r : Int) (h : ¬ (PK p k ∧ Poly f)) (w : World) (hv : Ints w v f) :
    Calls Try.prog 7 #[v, .int .i64 p, .int .i64 k, .int .i64 r] w fun e w' => e = .returned (.bool true) ∧ Below w.heap.size w w' := by
  have HV := Lib.hid hv
  have HN := Lib.hid h
  obtain ⟨_, A, c, rfl, _, _⟩ := hv
  by_cases hf : Poly f
  · have HF := Lib.hid hf
    have HP := Lib.hid (show ¬ PK p k from fun hp => h ⟨hp, hf⟩)
    clear h hf
    go_enter Try.func7, Try.ntmps7
    go_wp2_with fail
    refine (list_any _ f _ HV.out).mono ?_
    rintro e w1 ⟨v1, rfl, o1, b1⟩
    have hb1 := b1
    go_wp2_with fail
    refine (Roots_no _ _ _ p k (fun hh => HN.out ⟨hh.1, Poly.take.1 hh.2⟩) _ o1).mono ?_
    rintro e w2 ⟨rfl, b2⟩
    have hb2 := hb1.trans (b2.mono hb1.size)
    go_wp2_with fail
    refine (list_any _ f _ (HV.out.keep hb2)).mono ?_
    rintro e w3 ⟨v3, rfl, o3, b3⟩
    have hb3 := hb2.trans (b3.mono hb2.size)
    go_wp2_with fail
    refine (Lift_arg _ _ _ p k r (fun hh => HN.out ⟨hh.1, Poly.take.1 hh.2.1⟩) _ o3).mono ?_
    rintro e w4 ⟨rfl, b4⟩
    have hb4 := hb3.trans (b4.mono hb3.size)
    go_wp2_with fail
    refine (rPower_no p k HP.out _).mono ?_
    rintro e _ ⟨rfl, rfl⟩
    go_wp2_with fail
    refine (rPoly_any _ f true (by simp; exact HF.out) _ (HV.out.keep hb4)).mono ?_
    rintro e _ ⟨rfl, rfl⟩
    go_wp2_with fail
    (with_reducible refine (awake_any _).mono ?_)
    rintro e wz ⟨rfl, bz⟩
    have hb9 := hb4.trans (bz.mono hb4.size)
    go_wp2_with fail
    go_ret
    exact ⟨rfl, hb9⟩
  · have HF := Lib.hid hf
    by_cases hp : PK p k
    · have HPK := Lib.hid hp
      obtain ⟨P, K, rfl, rfl, hP, hK, hq⟩ := hp
      have HP := Lib.hid hP
      have HQ := Lib.hid hq
      clear h hf hP
      go_enter Try.func7, Try.ntmps7
      go_wp2_with fail
      refine (list_any _ f _ HV.out).mono ?_
      rintro e w1 ⟨v1, rfl, o1, b1⟩
      have hb1 := b1
      go_wp2_with fail
      refine (Roots_no _ _ _ P K (fun hh => HN.out ⟨hh.1, Poly.take.1 hh.2⟩) _ o1).mono ?_
      rintro e w2 ⟨rfl, b2⟩
      have hb2 := hb1.trans (b2.mono hb1.size)
      go_wp2_with fail
      refine (list_any _ f _ (HV.out.keep hb2)).mono ?_
      rintro e w3 ⟨v3, rfl, o3, b3⟩
      have hb3 := hb2.trans (b3.mono hb2.size)
      go_wp2_with fail
      refine (Lift_arg _ _ _ P K r (fun hh => HN.out ⟨hh.1, Poly.take.1 hh.2.1⟩) _ o3).mono ?_
      rintro e w4 ⟨rfl, b4⟩
      have hb4 := hb3.trans (b4.mono hb3.size)
      go_wp2_with fail
      refine (rPower_yes P K HP.out hK HQ.out _).mono ?_
      rintro e _ ⟨rfl, rfl⟩
      go_wp2_with fail
      refine (rPoly_any _ f false (by simp; exact HF.out) _ (HV.out.keep hb4)).mono ?_
      rintro e _ ⟨rfl, rfl⟩
      go_wp2_with fail
      (with_reducible refine (awake_any _).mono ?_)
      rintro e wz ⟨rfl, bz⟩
      have hb9 := hb4.trans (bz.mono hb4.size)
      go_wp2_with fail
      go_ret
      exact ⟨rfl, hb9⟩
    · have HP := Lib.hid hp
      clear h hf hp
      go_enter Try.func7, Try.ntmps7
      go_wp2_with fail
      refine (list_any _ f _ HV.out).mono ?_
      rintro e w1 ⟨v1, rfl, o1, b1⟩
      have hb1 := b1
      go_wp2_with fail
      refine (Roots_no _ _ _ p k (fun hh => HN.out ⟨hh.1, Poly.take.1 hh.2⟩) _ o1).mono ?_
      rintro e w2 ⟨rfl, b2⟩
      have hb2 := hb1.trans (b2.mono hb1.size)
      go_wp2_with fail
      refine (list_any _ f _ (HV.out.keep hb2)).mono ?_
      rintro e w3 ⟨v3, rfl, o3, b3⟩
      have hb3 := hb2.trans (b3.mono hb2.size)
      go_wp2_with fail
      refine (Lift_arg _ _ _ p k r (fun hh => HN.out ⟨hh.1, Poly.take.1 hh.2.1⟩) _ o3).mono ?_
      rintro e w4 ⟨rfl, b4⟩
      have hb4 := hb3.trans (b4.mono hb3.size)
      go_wp2_with fail
      refine (rPower_no p k HP.out _).mono ?_
      rintro e _ ⟨rfl, rfl⟩
      go_wp2_with fail
      refine (rPoly_any _ f false (by simp; exact HF.out) _ (HV.out.keep hb4)).mono ?_
      rintro e _ ⟨rfl, rfl⟩
      go_wp2_with fail
      (with_reducible refine (awake_any _).mono ?_)
      rintro e wz ⟨rfl, bz⟩
      have hb9 := hb4.trans (bz.mono hb4.size)
      go_wp2_with fail
      go_ret
      exact ⟨rfl, hb9⟩

set_option maxRecDepth 100000 in
set_option maxHeartbeats 16000000 in
theorem liftRoots_out1 (v : Value) (f : List Int) (P K : Nat) (r : Int) (hP : isP P) (hK : 1 ≤ K) (hq : pn P K ≤ 20000) (hf : Poly f) (hr : r < 0) (w : World) (hv : Ints w v f) :
    Calls Try.prog 7 #[v, .int .i64 P, .int .i64 K, .int .i64 r] w fun e w' => e = .returned (.bool true) ∧ Below w.heap.size w w' := by
  have HV := Lib.hid hv
  have HF := Lib.hid hf
  have HP := Lib.hid hP
  have HQ := Lib.hid hq
  have h2 := hP.pos
  have h13 := hP.le
  have hl7 := hf.2.2.1
  have HT := Lib.hid (show f.take 9 = f from List.take_of_length_le (by omega))
  have hq0 := pn_pos (show 0 < P by omega) K
  have hqb : (((pn P K : Nat) : Int) == 0) = false := by rw [beq_eq_false_iff_ne]; omega
  have hqb2 : ((pn P K) == 0) = false := by rw [beq_eq_false_iff_ne]; omega
  have hlen := rootsL_le f (pn P K)
  have hlenP := rootsL_le f P
  obtain ⟨_, A, c, rfl, _, _⟩ := hv
  have HA := Lib.hid (show ¬ LiftOk f P K r from fun h => by have := h.2.2.1; omega)
  have d3 : decide (r < 0) = true := decide_eq_true hr
  clear hP hf 
  go_enter Try.func7, Try.ntmps7
  go_wp2_with fail
  refine (list_any _ f _ HV.out).mono ?_
  rintro e w1 ⟨v1, rfl, o1, b1⟩
  have hb1 := b1
  go_wp2_with fail
  rw [HT.out] at o1
  refine (Roots_yes _ _ f P K HP.out hK HQ.out HF.out _ o1).mono ?_
  rintro e w2 ⟨v2, rfl, o2, b2⟩
  have hb2 := hb1.trans (b2.mono hb1.size)
  have I2 := Lib.hid (o2.ints (by omega))
  clear o1 b1 o2 b2
  go_wp2_with fail
  refine (list_any _ f _ (HV.out.keep hb2)).mono ?_
  rintro e w3 ⟨v3, rfl, o3, b3⟩
  have hb3 := hb2.trans (b3.mono hb2.size)
  go_wp2_with fail
  rw [HT.out] at o3
  have I2b := Lib.hid (I2.out.keep b3)
  clear b3
  refine (Lift_arg _ _ f P K r HA.out _ o3).mono ?_
  rintro e w4 ⟨rfl, b4⟩
  have hb4 := hb3.trans (b4.mono hb3.size)
  go_wp2_with fail
  have I2c := Lib.hid (I2b.out.keep b4)
  clear b4
  refine (rPower_yes P K HP.out hK HQ.out _).mono ?_
  rintro e _ ⟨rfl, rfl⟩
  go_wp2_with fail
  refine (rPoly_any _ f true (by simp; exact HF.out) _ (HV.out.keep hb4)).mono ?_
  rintro e _ ⟨rfl, rfl⟩
  go_wp2_with fail
  refine (rRoots_any _ f (pn P K) hq0 hq (by omega) _ (HV.out.keep hb4)).mono ?_
  rintro e w5 ⟨v5, rfl, o5, b5⟩
  have hb5 := hb4.trans (b5.mono hb4.size)
  have I5 := Lib.hid (o5.ints (by omega))
  have I2d := Lib.hid (I2c.out.keep b5)
  clear b5 o5
  go_wp2_with fail
  refine (equal_yes _ _ _ _ I2d.out I5.out).mono ?_
  rintro e w6 ⟨rfl, b6⟩
  have hb6 := hb5.trans (b6.mono hb5.size)
  clear b6
  go_wp2_with fail
  (with_reducible refine (awake_any _).mono ?_)
  rintro e w7 ⟨rfl, b7⟩
  have hb7 := hb6.trans (b7.mono hb6.size)
  clear b7
  go_wp2_with fail
  go_ret
  exact ⟨rfl, hb7⟩

set_option maxRecDepth 100000 in
set_option maxHeartbeats 16000000 in
theorem liftRoots_out2 (v : Value) (f : List Int) (P K : Nat) (r : Int) (hP : isP P) (hK : 1 ≤ K) (hq : pn P K ≤ 20000) (hf : Poly f) (hr0 : 0 ≤ r) (hr : (P : Int) ≤ r) (w : World) (hv : Ints w v f) :
    Calls Try.prog 7 #[v, .int .i64 P, .int .i64 K, .int .i64 r] w fun e w' => e = .returned (.bool true) ∧ Below w.heap.size w w' := by
  have HV := Lib.hid hv
  have HF := Lib.hid hf
  have HP := Lib.hid hP
  have HQ := Lib.hid hq
  have h2 := hP.pos
  have h13 := hP.le
  have hl7 := hf.2.2.1
  have HT := Lib.hid (show f.take 9 = f from List.take_of_length_le (by omega))
  have hq0 := pn_pos (show 0 < P by omega) K
  have hqb : (((pn P K : Nat) : Int) == 0) = false := by rw [beq_eq_false_iff_ne]; omega
  have hqb2 : ((pn P K) == 0) = false := by rw [beq_eq_false_iff_ne]; omega
  have hlen := rootsL_le f (pn P K)
  have hlenP := rootsL_le f P
  obtain ⟨_, A, c, rfl, _, _⟩ := hv
  have HA := Lib.hid (show ¬ LiftOk f P K r from fun h => by have := h.2.2.2.1; omega)
  have d3 : decide (r < 0) = false := decide_eq_false (by omega)
  have d4 : decide ((P : Int) ≤ r) = true := decide_eq_true hr
  clear hP hf 
  go_enter Try.func7, Try.ntmps7
  go_wp2_with fail
  refine (list_any _ f _ HV.out).mono ?_
  rintro e w1 ⟨v1, rfl, o1, b1⟩
  have hb1 := b1
  go_wp2_with fail
  rw [HT.out] at o1
  refine (Roots_yes _ _ f P K HP.out hK HQ.out HF.out _ o1).mono ?_
  rintro e w2 ⟨v2, rfl, o2, b2⟩
  have hb2 := hb1.trans (b2.mono hb1.size)
  have I2 := Lib.hid (o2.ints (by omega))
  clear o1 b1 o2 b2
  go_wp2_with fail
  refine (list_any _ f _ (HV.out.keep hb2)).mono ?_
  rintro e w3 ⟨v3, rfl, o3, b3⟩
  have hb3 := hb2.trans (b3.mono hb2.size)
  go_wp2_with fail
  rw [HT.out] at o3
  have I2b := Lib.hid (I2.out.keep b3)
  clear b3
  refine (Lift_arg _ _ f P K r HA.out _ o3).mono ?_
  rintro e w4 ⟨rfl, b4⟩
  have hb4 := hb3.trans (b4.mono hb3.size)
  go_wp2_with fail
  have I2c := Lib.hid (I2b.out.keep b4)
  clear b4
  refine (rPower_yes P K HP.out hK HQ.out _).mono ?_
  rintro e _ ⟨rfl, rfl⟩
  go_wp2_with fail
  refine (rPoly_any _ f true (by simp; exact HF.out) _ (HV.out.keep hb4)).mono ?_
  rintro e _ ⟨rfl, rfl⟩
  go_wp2_with fail
  refine (rRoots_any _ f (pn P K) hq0 hq (by omega) _ (HV.out.keep hb4)).mono ?_
  rintro e w5 ⟨v5, rfl, o5, b5⟩
  have hb5 := hb4.trans (b5.mono hb4.size)
  have I5 := Lib.hid (o5.ints (by omega))
  have I2d := Lib.hid (I2c.out.keep b5)
  clear b5 o5
  go_wp2_with fail
  refine (equal_yes _ _ _ _ I2d.out I5.out).mono ?_
  rintro e w6 ⟨rfl, b6⟩
  have hb6 := hb5.trans (b6.mono hb5.size)
  clear b6
  go_wp2_with fail
  (with_reducible refine (awake_any _).mono ?_)
  rintro e w7 ⟨rfl, b7⟩
  have hb7 := hb6.trans (b7.mono hb6.size)
  clear b7
  go_wp2_with fail
  go_ret
  exact ⟨rfl, hb7⟩

set_option maxRecDepth 100000 in
set_option maxHeartbeats 16000000 in
theorem liftRoots_none (v : Value) (f : List Int) (P K : Nat) (r : Int) (hP : isP P) (hK : 1 ≤ K) (hq : pn P K ≤ 20000) (hf : Poly f) (hr0 : 0 ≤ r) (hr1 : r < P) (he : ¬ ev f r % P = 0) (w : World) (hv : Ints w v f) :
    Calls Try.prog 7 #[v, .int .i64 P, .int .i64 K, .int .i64 r] w fun e w' => e = .returned (.bool true) ∧ Below w.heap.size w w' := by
  have HV := Lib.hid hv
  have HF := Lib.hid hf
  have HP := Lib.hid hP
  have HQ := Lib.hid hq
  have h2 := hP.pos
  have h13 := hP.le
  have hl7 := hf.2.2.1
  have HT := Lib.hid (show f.take 9 = f from List.take_of_length_le (by omega))
  have hq0 := pn_pos (show 0 < P by omega) K
  have hqb : (((pn P K : Nat) : Int) == 0) = false := by rw [beq_eq_false_iff_ne]; omega
  have hqb2 : ((pn P K) == 0) = false := by rw [beq_eq_false_iff_ne]; omega
  have hlen := rootsL_le f (pn P K)
  have hlenP := rootsL_le f P
  obtain ⟨_, A, c, rfl, _, _⟩ := hv
  have HA := Lib.hid (show ¬ LiftOk f P K r from fun h => he h.2.2.2.2)
  have HCN := Lib.hid (not_contains (show ¬ r ∈ rootsL f P from fun h => he (mem_rootsL.1 h).2.2))
  have d1 : decide (r < 0) = false := decide_eq_false (by omega)
  have d2 : decide ((P : Int) ≤ r) = false := decide_eq_false (by omega)
  clear hP hf he
  go_enter Try.func7, Try.ntmps7
  go_wp2_with fail
  refine (list_any _ f _ HV.out).mono ?_
  rintro e w1 ⟨v1, rfl, o1, b1⟩
  have hb1 := b1
  go_wp2_with fail
  rw [HT.out] at o1
  refine (Roots_yes _ _ f P K HP.out hK HQ.out HF.out _ o1).mono ?_
  rintro e w2 ⟨v2, rfl, o2, b2⟩
  have hb2 := hb1.trans (b2.mono hb1.size)
  have I2 := Lib.hid (o2.ints (by omega))
  clear o1 b1 o2 b2
  go_wp2_with fail
  refine (list_any _ f _ (HV.out.keep hb2)).mono ?_
  rintro e w3 ⟨v3, rfl, o3, b3⟩
  have hb3 := hb2.trans (b3.mono hb2.size)
  go_wp2_with fail
  rw [HT.out] at o3
  have I2b := Lib.hid (I2.out.keep b3)
  clear b3
  refine (Lift_arg _ _ f P K r HA.out _ o3).mono ?_
  rintro e w4 ⟨rfl, b4⟩
  have hb4 := hb3.trans (b4.mono hb3.size)
  go_wp2_with fail
  have I2c := Lib.hid (I2b.out.keep b4)
  clear b4
  refine (rPower_yes P K HP.out hK HQ.out _).mono ?_
  rintro e _ ⟨rfl, rfl⟩
  go_wp2_with fail
  refine (rPoly_any _ f true (by simp; exact HF.out) _ (HV.out.keep hb4)).mono ?_
  rintro e _ ⟨rfl, rfl⟩
  go_wp2_with fail
  refine (rRoots_any _ f (pn P K) hq0 hq (by omega) _ (HV.out.keep hb4)).mono ?_
  rintro e w5 ⟨v5, rfl, o5, b5⟩
  have hb5 := hb4.trans (b5.mono hb4.size)
  have I5 := Lib.hid (o5.ints (by omega))
  have I2d := Lib.hid (I2c.out.keep b5)
  clear b5 o5
  go_wp2_with fail
  refine (equal_yes _ _ _ _ I2d.out I5.out).mono ?_
  rintro e w6 ⟨rfl, b6⟩
  have hb6 := hb5.trans (b6.mono hb5.size)
  clear b6
  go_wp2_with fail
  (with_reducible refine (awake_any _).mono ?_)
  rintro e w7 ⟨rfl, b7⟩
  have hb7 := hb6.trans (b7.mono hb6.size)
  clear b7
  go_wp2_with fail
  refine (rRoots_any _ f P (by omega) (by omega) (by omega) _ (HV.out.keep hb7)).mono ?_
  rintro e w8 ⟨v8, rfl, o8, b8⟩
  have hb8 := hb7.trans (b8.mono hb7.size)
  have O8 := Lib.hid o8
  clear b8 o8
  go_wp2_with fail
  refine (contains_own _ _ _ r _ O8.out).mono ?_
  rintro e _ ⟨rfl, rfl⟩
  rw [HCN.out]
  go_wp2_with fail
  go_ret
  exact ⟨rfl, hb8⟩

set_option maxRecDepth 100000 in
set_option maxHeartbeats 16000000 in
theorem liftRoots_state (v : Value) (f : List Int) (P K : Nat) (r : Int) (hP : isP P) (hK : 1 ≤ K) (hq : pn P K ≤ 20000) (hf : Poly f) (hr0 : 0 ≤ r) (hr1 : r < P) (he : ev f r % P = 0) (hd : ev (dv f) r % P = 0) (w : World) (hv : Ints w v f) :
    Calls Try.prog 7 #[v, .int .i64 P, .int .i64 K, .int .i64 r] w fun e w' => e = .returned (.bool true) ∧ Below w.heap.size w w' := by
  have HV := Lib.hid hv
  have HF := Lib.hid hf
  have HP := Lib.hid hP
  have HQ := Lib.hid hq
  have h2 := hP.pos
  have h13 := hP.le
  have hl7 := hf.2.2.1
  have HT := Lib.hid (show f.take 9 = f from List.take_of_length_le (by omega))
  have hq0 := pn_pos (show 0 < P by omega) K
  have hqb : (((pn P K : Nat) : Int) == 0) = false := by rw [beq_eq_false_iff_ne]; omega
  have hqb2 : ((pn P K) == 0) = false := by rw [beq_eq_false_iff_ne]; omega
  have hlen := rootsL_le f (pn P K)
  have hlenP := rootsL_le f P
  obtain ⟨_, A, c, rfl, _, _⟩ := hv
  have HCN := Lib.hid (mem_contains (show r ∈ rootsL f P from mem_rootsL.2 ⟨hr0, hr1, he⟩))
  have HE := Lib.hid he
  have HD := Lib.hid hd
  have d1 : decide (r < 0) = false := decide_eq_false (by omega)
  have d2 : decide ((P : Int) ≤ r) = false := decide_eq_false (by omega)
  clear hP hf he hd
  go_enter Try.func7, Try.ntmps7
  go_wp2_with fail
  refine (list_any _ f _ HV.out).mono ?_
  rintro e w1 ⟨v1, rfl, o1, b1⟩
  have hb1 := b1
  go_wp2_with fail
  rw [HT.out] at o1
  refine (Roots_yes _ _ f P K HP.out hK HQ.out HF.out _ o1).mono ?_
  rintro e w2 ⟨v2, rfl, o2, b2⟩
  have hb2 := hb1.trans (b2.mono hb1.size)
  have I2 := Lib.hid (o2.ints (by omega))
  clear o1 b1 o2 b2
  go_wp2_with fail
  refine (list_any _ f _ (HV.out.keep hb2)).mono ?_
  rintro e w3 ⟨v3, rfl, o3, b3⟩
  have hb3 := hb2.trans (b3.mono hb2.size)
  go_wp2_with fail
  rw [HT.out] at o3
  have I2b := Lib.hid (I2.out.keep b3)
  clear b3
  refine (Lift_state _ _ f P K HP.out hK HQ.out HF.out r hr0 hr1 HE.out HD.out _ o3).mono ?_
  rintro e w4 ⟨rfl, b4⟩
  have hb4 := hb3.trans (b4.mono hb3.size)
  go_wp2_with fail
  have I2c := Lib.hid (I2b.out.keep b4)
  clear b4
  refine (rPower_yes P K HP.out hK HQ.out _).mono ?_
  rintro e _ ⟨rfl, rfl⟩
  go_wp2_with fail
  refine (rPoly_any _ f true (by simp; exact HF.out) _ (HV.out.keep hb4)).mono ?_
  rintro e _ ⟨rfl, rfl⟩
  go_wp2_with fail
  refine (rRoots_any _ f (pn P K) hq0 hq (by omega) _ (HV.out.keep hb4)).mono ?_
  rintro e w5 ⟨v5, rfl, o5, b5⟩
  have hb5 := hb4.trans (b5.mono hb4.size)
  have I5 := Lib.hid (o5.ints (by omega))
  have I2d := Lib.hid (I2c.out.keep b5)
  clear b5 o5
  go_wp2_with fail
  refine (equal_yes _ _ _ _ I2d.out I5.out).mono ?_
  rintro e w6 ⟨rfl, b6⟩
  have hb6 := hb5.trans (b6.mono hb5.size)
  clear b6
  go_wp2_with fail
  (with_reducible refine (awake_any _).mono ?_)
  rintro e w7 ⟨rfl, b7⟩
  have hb7 := hb6.trans (b7.mono hb6.size)
  clear b7
  go_wp2_with fail
  refine (rRoots_any _ f P (by omega) (by omega) (by omega) _ (HV.out.keep hb7)).mono ?_
  rintro e w8 ⟨v8, rfl, o8, b8⟩
  have hb8 := hb7.trans (b8.mono hb7.size)
  have O8 := Lib.hid o8
  clear b8 o8
  go_wp2_with fail
  refine (contains_own _ _ _ r _ O8.out).mono ?_
  rintro e _ ⟨rfl, rfl⟩
  rw [HCN.out]
  go_wp2_with fail
  refine (rLift_state _ f P K HP.out hK HQ.out HF.out r hr0 hr1 HD.out _ (HV.out.keep hb8)).mono ?_
  rintro e w9 ⟨rfl, b9⟩
  have hb9 := hb8.trans (b9.mono hb8.size)
  go_wp2_with fail
  go_ret
  exact ⟨rfl, hb9⟩

set_option maxRecDepth 100000 in
set_option maxHeartbeats 16000000 in
theorem liftRoots_yes (v : Value) (f : List Int) (P K : Nat) (r : Int) (hP : isP P) (hK : 1 ≤ K) (hq : pn P K ≤ 20000) (hf : Poly f) (hs : Simple f P r) (w : World) (hv : Ints w v f) :
    Calls Try.prog 7 #[v, .int .i64 P, .int .i64 K, .int .i64 r] w fun e w' => e = .returned (.bool true) ∧ Below w.heap.size w w' := by
  have HV := Lib.hid hv
  have HF := Lib.hid hf
  have HP := Lib.hid hP
  have HQ := Lib.hid hq
  have h2 := hP.pos
  have h13 := hP.le
  have hl7 := hf.2.2.1
  have HT := Lib.hid (show f.take 9 = f from List.take_of_length_le (by omega))
  have hq0 := pn_pos (show 0 < P by omega) K
  have hqb : (((pn P K : Nat) : Int) == 0) = false := by rw [beq_eq_false_iff_ne]; omega
  have hqb2 : ((pn P K) == 0) = false := by rw [beq_eq_false_iff_ne]; omega
  have hlen := rootsL_le f (pn P K)
  have hlenP := rootsL_le f P
  obtain ⟨_, A, c, rfl, _, _⟩ := hv
  have hr0 := hs.1
  have hr1 := hs.2.1
  have HCN := Lib.hid (mem_contains (show r ∈ rootsL f P from mem_rootsL.2 ⟨hr0, hr1, hs.2.2.1⟩))
  have HS := Lib.hid hs
  obtain ⟨R, hR0, hR⟩ := lift_ex hP hs K hK
  have HR0 := Lib.hid hR0
  have HR := Lib.hid hR
  have d1 : decide (r < 0) = false := decide_eq_false (by omega)
  have d2 : decide ((P : Int) ≤ r) = false := decide_eq_false (by omega)
  clear hP hf hs hR0 hR
  go_enter Try.func7, Try.ntmps7
  go_wp2_with fail
  refine (list_any _ f _ HV.out).mono ?_
  rintro e w1 ⟨v1, rfl, o1, b1⟩
  have hb1 := b1
  go_wp2_with fail
  rw [HT.out] at o1
  refine (Roots_yes _ _ f P K HP.out hK HQ.out HF.out _ o1).mono ?_
  rintro e w2 ⟨v2, rfl, o2, b2⟩
  have hb2 := hb1.trans (b2.mono hb1.size)
  have I2 := Lib.hid (o2.ints (by omega))
  clear o1 b1 o2 b2
  go_wp2_with fail
  refine (list_any _ f _ (HV.out.keep hb2)).mono ?_
  rintro e w3 ⟨v3, rfl, o3, b3⟩
  have hb3 := hb2.trans (b3.mono hb2.size)
  go_wp2_with fail
  rw [HT.out] at o3
  have I2b := Lib.hid (I2.out.keep b3)
  clear b3
  refine (Lift_yes _ _ f P K HP.out hK HQ.out HF.out r HS.out R HR.out _ o3).mono ?_
  rintro e w4 ⟨rfl, b4⟩
  have hb4 := hb3.trans (b4.mono hb3.size)
  go_wp2_with fail
  have I2c := Lib.hid (I2b.out.keep b4)
  clear b4
  refine (rPower_yes P K HP.out hK HQ.out _).mono ?_
  rintro e _ ⟨rfl, rfl⟩
  go_wp2_with fail
  refine (rPoly_any _ f true (by simp; exact HF.out) _ (HV.out.keep hb4)).mono ?_
  rintro e _ ⟨rfl, rfl⟩
  go_wp2_with fail
  refine (rRoots_any _ f (pn P K) hq0 hq (by omega) _ (HV.out.keep hb4)).mono ?_
  rintro e w5 ⟨v5, rfl, o5, b5⟩
  have hb5 := hb4.trans (b5.mono hb4.size)
  have I5 := Lib.hid (o5.ints (by omega))
  have I2d := Lib.hid (I2c.out.keep b5)
  clear b5 o5
  go_wp2_with fail
  refine (equal_yes _ _ _ _ I2d.out I5.out).mono ?_
  rintro e w6 ⟨rfl, b6⟩
  have hb6 := hb5.trans (b6.mono hb5.size)
  clear b6
  go_wp2_with fail
  (with_reducible refine (awake_any _).mono ?_)
  rintro e w7 ⟨rfl, b7⟩
  have hb7 := hb6.trans (b7.mono hb6.size)
  clear b7
  go_wp2_with fail
  refine (rRoots_any _ f P (by omega) (by omega) (by omega) _ (HV.out.keep hb7)).mono ?_
  rintro e w8 ⟨v8, rfl, o8, b8⟩
  have hb8 := hb7.trans (b8.mono hb7.size)
  have O8 := Lib.hid o8
  clear b8 o8
  go_wp2_with fail
  refine (contains_own _ _ _ r _ O8.out).mono ?_
  rintro e _ ⟨rfl, rfl⟩
  rw [HCN.out]
  go_wp2_with fail
  refine (rLift_yes _ f P K HP.out hK HQ.out HF.out r HS.out R HR0.out HR.out _ (HV.out.keep hb8)).mono ?_
  rintro e w9 ⟨rfl, b9⟩
  have hb9 := hb8.trans (b9.mono hb8.size)
  go_wp2_with fail
  go_ret
  exact ⟨rfl, hb9⟩

/-- The walk of LiftRoots. -/
theorem liftRoots_walk (w : World) (v : Value) (f : List Int) (hv : Ints w v f) (_ : ∀ n ∈ f, -9223372036854775808 ≤ n ∧ n ≤ 9223372036854775807) (p : Int) (_ : -9223372036854775808 ≤ p ∧ p ≤ 9223372036854775807) (k : Int) (_ : -9223372036854775808 ≤ k ∧ k ≤ 9223372036854775807) (r : Int) (_ : -9223372036854775808 ≤ r ∧ r ≤ 9223372036854775807) :
    Calls Try.prog 7 #[v, .int .i64 p, .int .i64 k, .int .i64 r] w fun e w' => e = .returned (.bool true) ∧ Below w.heap.size w w' := by
  by_cases h : PK p k ∧ Poly f
  · obtain ⟨⟨P, K, rfl, rfl, hP, hK, hq⟩, hf⟩ := h
    by_cases hr : r < 0 ∨ (P : Int) ≤ r
    · by_cases h0 : r < 0
      · exact liftRoots_out1 v f P K r hP hK hq hf h0 w hv
      · exact liftRoots_out2 v f P K r hP hK hq hf (by omega) (by omega) w hv
    · by_cases he : ev f r % P = 0
      · by_cases hd : ev (dv f) r % P = 0
        · exact liftRoots_state v f P K r hP hK hq hf (by omega) (by omega) he hd w hv
        · exact liftRoots_yes v f P K r hP hK hq hf ⟨by omega, by omega, he, hd⟩ w hv
      · exact liftRoots_none v f P K r hP hK hq hf (by omega) (by omega) he w hv
  · exact liftRoots_bad v f p k r h w hv
end Go.Proofs.Ytdkobkghhnccgaa
