/- Walks of Lift's errors and of the reference's Lift. -/
import Derived.Test.YtdkobkghhnccgaaLl
namespace Go.Proofs.Ytdkobkghhnccgaa
open Go.RowKit
theorem rootsL_at (f : List Int) (q i : Nat) (h : i < (rootsL f q).length) : (rootsL f q).getD i 0 ∈ rootsL f q := by
  rw [show (rootsL f q).getD i 0 = (rootsL f q)[i] by simp [h]]
  exact List.getElem_mem h
theorem rootsL_le (f : List Int) (q : Nat) : (rootsL f q).length ≤ q := by have := rootsk_le f q q; rwa [rootsk_all] at this
/-- the arguments of Lift are good -/
def LiftOk (f : List Int) (p k r : Int) : Prop := PK p k ∧ Poly f ∧ 0 ≤ r ∧ r < p ∧ ev f r % p = 0
set_option maxHeartbeats 8000000 in
theorem Lift_arg (base : Nat) (v : Value) (f : List Int) (p k r : Int) (h : ¬ LiftOk f p k r) (w : World) (hv : Own w base v f) :
    Calls Try.prog 28 #[v, .int .i64 p, .int .i64 k, .int .i64 r] w fun e w' => e = .returned (.tuple #[.int .i64 0, .int .i64 2]) ∧ Below w.heap.size w w' := by
  have HV := Lib.hid hv
  obtain ⟨A0, n0, c0, rfl⟩ := hv.isSlice
  by_cases hp : PK p k
  · have HPK := Lib.hid hp
    obtain ⟨P, K, rfl, rfl, hP, hK, hq⟩ := hp
    have HP := Lib.hid hP
    have HQ := Lib.hid hq
    have h2 := hP.pos
    have h13 := hP.le
    by_cases hf : Poly f
    · have HF := Lib.hid hf
      have hl7 := hf.2.2.1
      have HC := Lib.hid (show ∀ k, k < f.length → -10000000 ≤ f.getD k 0 ∧ f.getD k 0 ≤ 10000000 from hf.coefs)
      by_cases h1 : r < 0
      · have d1 : decide (r < 0) = true := decide_eq_true h1
        clear h hP hf
        go_enter Try.func28, Try.ntmps28
        go_wp2_with fail
        refine (power_yes P K HP.out hK HQ.out _).mono ?_
        rintro e w1 ⟨rfl, b1⟩
        have HV1 := Lib.hid (HV.out.same (fun b _ hlt => b1.block b hlt))
        clear hv
        go_wp2_with fail
        refine (valid_any base _ f true (by simp; exact HF.out) _ HV1.out).mono ?_
        rintro e _ ⟨rfl, rfl⟩
        go_wp2_with fail
        go_ret2
        exact ⟨rfl, b1⟩
      · have d1 : decide (r < 0) = false := decide_eq_false h1
        by_cases h3 : (P : Int) ≤ r
        · have d2 : decide ((P : Int) ≤ r) = true := decide_eq_true h3
          clear h hP hf
          go_enter Try.func28, Try.ntmps28
          go_wp2_with fail
          refine (power_yes P K HP.out hK HQ.out _).mono ?_
          rintro e w1 ⟨rfl, b1⟩
          have HV1 := Lib.hid (HV.out.same (fun b _ hlt => b1.block b hlt))
          clear hv
          go_wp2_with fail
          refine (valid_any base _ f true (by simp; exact HF.out) _ HV1.out).mono ?_
          rintro e _ ⟨rfl, rfl⟩
          go_wp2_with fail
          go_ret2
          exact ⟨rfl, b1⟩
        · have d2 : decide ((P : Int) ≤ r) = false := decide_eq_false h3
          have hr0 : 0 ≤ r := by omega
          have hz : (ev f r % (P : Int) != 0) = true := by
            rw [bne_iff_ne]
            intro hz
            exact h ⟨HPK.out, hf, hr0, by omega, hz⟩
          clear h hP hf
          go_enter Try.func28, Try.ntmps28
          go_wp2_with fail
          refine (power_yes P K HP.out hK HQ.out _).mono ?_
          rintro e w1 ⟨rfl, b1⟩
          have HV1 := Lib.hid (HV.out.same (fun b _ hlt => b1.block b hlt))
          clear hv
          go_wp2_with fail
          refine (valid_any base _ f true (by simp; exact HF.out) _ HV1.out).mono ?_
          rintro e _ ⟨rfl, rfl⟩
          go_wp2_with fail
          with_reducible refine (at_any _ f r (P : Int) hr0 (by omega) (by omega) (by omega) HC.out _ (HV1.out.ints (by omega))).mono ?_
          rintro e _ ⟨rfl, rfl⟩
          go_wp2_with fail
          go_ret2
          exact ⟨rfl, b1⟩
    · have HF := Lib.hid hf
      clear h hP hf
      go_enter Try.func28, Try.ntmps28
      go_wp2_with fail
      refine (power_yes P K HP.out hK HQ.out _).mono ?_
      rintro e w1 ⟨rfl, b1⟩
      have HV1 := Lib.hid (HV.out.same (fun b _ hlt => b1.block b hlt))
      clear hv
      go_wp2_with fail
      refine (valid_any base _ f false (by simp; exact HF.out) _ HV1.out).mono ?_
      rintro e _ ⟨rfl, rfl⟩
      go_wp2_with fail
      go_ret2
      exact ⟨rfl, b1⟩
  · have HPK := Lib.hid hp
    clear h hp
    go_enter Try.func28, Try.ntmps28
    go_wp2_with fail
    refine (power_no p k HPK.out _).mono ?_
    rintro e w1 ⟨rfl, b1⟩
    go_wp2_with fail
    go_ret2
    exact ⟨rfl, b1⟩
set_option maxHeartbeats 8000000 in
theorem Lift_state (base : Nat) (v : Value) (f : List Int) (P K : Nat) (hP : isP P) (hK : 1 ≤ K) (hq : pn P K ≤ 20000) (hf : Poly f) (r : Int) (hr0 : 0 ≤ r) (hr1 : r < P) (he : ev f r % P = 0) (hd : ev (dv f) r % P = 0) (w : World) (hv : Own w base v f) :
    Calls Try.prog 28 #[v, .int .i64 P, .int .i64 K, .int .i64 r] w fun e w' => e = .returned (.tuple #[.int .i64 0, .int .i64 5]) ∧ Below w.heap.size w w' := by
  have HV := Lib.hid hv
  have HF := Lib.hid hf
  have HC := Lib.hid (show ∀ k, k < f.length → -10000000 ≤ f.getD k 0 ∧ f.getD k 0 ≤ 10000000 from hf.coefs)
  have HCD := Lib.hid (show ∀ k, k < (dv f).length → -10000000 ≤ (dv f).getD k 0 ∧ (dv f).getD k 0 ≤ 10000000 from dv_coefs hf)
  have HP := Lib.hid hP
  have HQ := Lib.hid hq
  have h2 := hP.pos
  have h13 := hP.le
  have hl7 := hf.2.2.1
  have hl2 := hf.2.1
  have hdl := dv_len hf
  have hz0 : (ev f r % (P : Int) != 0) = false := by rw [bne_eq_false_iff_eq]; exact he
  have hz1 : (ev (dv f) r % (P : Int) == 0) = true := by rw [beq_iff_eq]; exact hd
  have d1 : decide (r < 0) = false := decide_eq_false (by omega)
  have d2 : decide ((P : Int) ≤ r) = false := decide_eq_false (by omega)
  obtain ⟨A0, n0, c0, rfl⟩ := hv.isSlice
  clear hP hf he hd
  go_enter Try.func28, Try.ntmps28
  go_wp2_with fail
  refine (power_yes P K HP.out hK HQ.out _).mono ?_
  rintro e w1 ⟨rfl, b1⟩
  have HV1 := Lib.hid (HV.out.same (fun b _ hlt => b1.block b hlt))
  clear hv
  go_wp2_with fail
  refine (valid_any base _ f true (by simp; exact HF.out) _ HV1.out).mono ?_
  rintro e _ ⟨rfl, rfl⟩
  go_wp2_with fail
  with_reducible refine (at_any _ f r (P : Int) hr0 (by omega) (by omega) (by omega) HC.out _ (HV1.out.ints (by omega))).mono ?_
  rintro e _ ⟨rfl, rfl⟩
  go_wp2_with fail
  refine (derivative_any base _ f hl2 hl7 HF.out.1 _ HV1.out).mono ?_
  rintro e w2 ⟨vd, rfl, od, b2⟩
  have HD := Lib.hid (od.ints (by omega))
  have HB := Lib.hid (b1.trans (b2.mono b1.size))
  clear od b1 b2
  go_wp2_with fail
  with_reducible refine (at_any _ (dv f) r (P : Int) hr0 (by omega) (by omega) (by omega) HCD.out _ HD.out).mono ?_
  rintro e _ ⟨rfl, rfl⟩
  go_wp2_with fail
  go_ret2
  exact ⟨rfl, HB.out⟩
set_option maxRecDepth 100000 in
set_option maxHeartbeats 16000000 in
theorem rLift_state (v : Value) (f : List Int) (P K : Nat) (hP : isP P) (hK : 1 ≤ K) (hq : pn P K ≤ 20000) (hf : Poly f) (r : Int) (hr0 : 0 ≤ r) (hr1 : r < P) (hd : ev (dv f) r % P = 0) (w : World) (hv : Ints w v f) :
    Calls Try.prog 30 #[v, .int .i64 P, .int .i64 (pn P K : Nat), .int .i64 r] w fun e w' => e = .returned (.tuple #[.int .i64 0, .int .i64 5]) ∧ Below w.heap.size w w' := by
  have HV := Lib.hid hv
  have HF := Lib.hid hf
  have HP := Lib.hid hP
  have h2 := hP.pos
  have h13 := hP.le
  have hl7 := hf.2.2.1
  have hl2 := hf.2.1
  have hq0 := pn_pos (show 0 < P by omega) K
  have hdl := dv_len hf
  have hdl2 : (dv f).length = f.length - 1 := dvk_length _ _
  have hz1 : (ev (dv f) r % (P : Int) == 0) = true := by rw [beq_iff_eq]; exact hd
  obtain ⟨_, A, c, rfl, _, hcr⟩ := hv
  obtain ⟨ad, rfl, hbl, hcell⟩ := hcr (by omega)
  have HC := Lib.hid (fun W (hb : Below w.heap.size w W) j (hj : j < f.length) => (hb.cell (p := ad.add j) (by rw [addr_block]; exact hbl)).trans (hcell j _ (getD_get f j hj)))
  have HDL := Lib.hid hdl2
  clear hcr hcell hP hf hd hdl2
  go_enter Try.func30, Try.ntmps30
  go_wp2_with fail
  go_loopw [10, 17] (fun o i wr => ∃ m : Nat, m ≤ f.length ∧ i = .int .i64 m ∧ Own wr w.heap.size o (dvk f (m - 1)) ∧ Below w.heap.size w wr) (fun _ i _ => f.length - (intOf i).toNat)
  case atStart => exact ⟨0, by omega, rfl, Own.nil _ _, Below.refl _ _⟩
  case round =>
    obtain ⟨m, hm, rfl, hown, hb⟩ := hrel
    have HB := Lib.hid hb
    by_cases hlt : m < f.length
    · have hcx := HC.out wr hb m hlt
      clear hb
      rcases Nat.eq_zero_or_pos m with rfl | hm1
      · have hcx2 : wr.cell? ad = some (.int .i64 (f.getD 0 0)) := hcx
        generalize f.getD 0 0 = y at *
        have HO := Lib.hid hown
        clear hown
        go_wp2_with fail
        go_roundw
        case rel => exact ⟨1, by omega, by go_num, HO.out, HB.out⟩
        case measure => simp [intOf]; omega
      · have hcb := HF.out.1 m hlt
        have hcb1 := hcb.1
        have hcb2 := hcb.2
        have HSU := Lib.hid (show dvk f (m + 1 - 1) = dvk f (m - 1) ++ [(m : Int) * f.getD m 0] by
          have e := dvk_succ f (m - 1)
          rw [show m - 1 + 1 = m by omega] at e
          rw [Nat.add_sub_cancel, e, Int.mul_comm]
          congr 3
          omega)
        have hm7 : m ≤ 6 := by omega
        have hpr : -7000 ≤ (m : Int) * f.getD m 0 ∧ (m : Int) * f.getD m 0 ≤ 7000 := by
          generalize f.getD m 0 = y at *
          have : m = 1 ∨ m = 2 ∨ m = 3 ∨ m = 4 ∨ m = 5 ∨ m = 6 := by omega
          rcases this with rfl | rfl | rfl | rfl | rfl | rfl <;> simp <;> omega
        have hpr1 := hpr.1
        have hpr2 := hpr.2
        have k1 : decide (0 < m) = true := decide_eq_true (by omega)
        have k1' : decide (0 < (m : Int)) = true := decide_eq_true (by omega)
        clear hcb hpr
        generalize f.getD m 0 = y at *
        go_wp2_with (at_builtin; refine wpList_append_new _ rfl _ _ 22 rfl Try.underlying22 w.heap.size u10 _ rfl hown ((m : Int) * y) rfl (by rw [dvk_length]; omega) HB.out.size ?_; intro v' w1 hown1 _ hb1)
        go_roundw
        case rel => exact ⟨m + 1, by omega, by go_num, by rw [HSU.out]; exact hown1, HB.out.trans hb1⟩
        case measure => simp [intOf]; omega
    · obtain rfl : m = f.length := by omega
      have HI := Lib.hid (show Ints wr u10 (dv f) from hown.ints (by rw [dvk_length]; omega))
      clear hown hb
      go_wp2_with fail
      with_reducible refine (rAt_any _ (dv f) r (P : Int) hr0 (by omega) (by omega) (by omega) (by omega) _ HI.out).mono ?_
      rintro e w3 ⟨rfl, b3⟩
      have hb3 := HB.out.trans (b3.mono HB.out.size)
      clear b3
      go_wp2_with fail
      go_ret2
      exact ⟨rfl, hb3⟩

set_option maxRecDepth 100000 in
set_option maxHeartbeats 16000000 in
theorem rLift_yes (v : Value) (f : List Int) (P K : Nat) (hP : isP P) (hK : 1 ≤ K) (hq : pn P K ≤ 20000) (hf : Poly f) (r : Int) (hs : Simple f P r) (R : Int) (hR0 : IsLift f P r K R) (hR : ∀ x, IsLift f P r K x → x = R) (w : World) (hv : Ints w v f) :
    Calls Try.prog 30 #[v, .int .i64 P, .int .i64 (pn P K : Nat), .int .i64 r] w fun e w' => e = .returned (.tuple #[.int .i64 R, .int .i64 0]) ∧ Below w.heap.size w w' := by
  have HV := Lib.hid hv
  have HF := Lib.hid hf
  have HP := Lib.hid hP
  have h2 := hP.pos
  have h13 := hP.le
  have hl7 := hf.2.2.1
  have hl2 := hf.2.1
  have hq0 := pn_pos (show 0 < P by omega) K
  have hdl := dv_len hf
  have hdl2 : (dv f).length = f.length - 1 := dvk_length _ _
  have hr0 := hs.1
  have hr1 := hs.2.1
  have HS := Lib.hid hs
  have HR := Lib.hid hR
  have HR0 := Lib.hid hR0
  have hz1 : (ev (dv f) r % (P : Int) == 0) = false := by rw [beq_eq_false_iff_ne]; exact hs.2.2.2
  obtain ⟨_, A, c, rfl, _, hcr⟩ := hv
  obtain ⟨ad, rfl, hbl, hcell⟩ := hcr (by omega)
  have HC := Lib.hid (fun W (hb : Below w.heap.size w W) j (hj : j < f.length) => (hb.cell (p := ad.add j) (by rw [addr_block]; exact hbl)).trans (hcell j _ (getD_get f j hj)))
  have HDL := Lib.hid hdl2
  clear hcr hcell hP hf hs hR0 hR hdl2
  go_enter Try.func30, Try.ntmps30
  go_wp2_with fail
  go_loopw [10, 17] (fun o i wr => ∃ m : Nat, m ≤ f.length ∧ i = .int .i64 m ∧ Own wr w.heap.size o (dvk f (m - 1)) ∧ Below w.heap.size w wr) (fun _ i _ => f.length - (intOf i).toNat)
  case atStart => exact ⟨0, by omega, rfl, Own.nil _ _, Below.refl _ _⟩
  case round =>
    obtain ⟨m, hm, rfl, hown, hb⟩ := hrel
    have HB := Lib.hid hb
    by_cases hlt : m < f.length
    · have hcx := HC.out wr hb m hlt
      clear hb
      rcases Nat.eq_zero_or_pos m with rfl | hm1
      · have hcx2 : wr.cell? ad = some (.int .i64 (f.getD 0 0)) := hcx
        generalize f.getD 0 0 = y at *
        have HO := Lib.hid hown
        clear hown
        go_wp2_with fail
        go_roundw
        case rel => exact ⟨1, by omega, by go_num, HO.out, HB.out⟩
        case measure => simp [intOf]; omega
      · have hcb := HF.out.1 m hlt
        have hcb1 := hcb.1
        have hcb2 := hcb.2
        have HSU := Lib.hid (show dvk f (m + 1 - 1) = dvk f (m - 1) ++ [(m : Int) * f.getD m 0] by
          have e := dvk_succ f (m - 1)
          rw [show m - 1 + 1 = m by omega] at e
          rw [Nat.add_sub_cancel, e, Int.mul_comm]
          congr 3
          omega)
        have hm7 : m ≤ 6 := by omega
        have hpr : -7000 ≤ (m : Int) * f.getD m 0 ∧ (m : Int) * f.getD m 0 ≤ 7000 := by
          generalize f.getD m 0 = y at *
          have : m = 1 ∨ m = 2 ∨ m = 3 ∨ m = 4 ∨ m = 5 ∨ m = 6 := by omega
          rcases this with rfl | rfl | rfl | rfl | rfl | rfl <;> simp <;> omega
        have hpr1 := hpr.1
        have hpr2 := hpr.2
        have k1 : decide (0 < m) = true := decide_eq_true (by omega)
        have k1' : decide (0 < (m : Int)) = true := decide_eq_true (by omega)
        clear hcb hpr
        generalize f.getD m 0 = y at *
        go_wp2_with (at_builtin; refine wpList_append_new _ rfl _ _ 22 rfl Try.underlying22 w.heap.size u10 _ rfl hown ((m : Int) * y) rfl (by rw [dvk_length]; omega) HB.out.size ?_; intro v' w1 hown1 _ hb1)
        go_roundw
        case rel => exact ⟨m + 1, by omega, by go_num, by rw [HSU.out]; exact hown1, HB.out.trans hb1⟩
        case measure => simp [intOf]; omega
    · obtain rfl : m = f.length := by omega
      have HI := Lib.hid (show Ints wr u10 (dv f) from hown.ints (by rw [dvk_length]; omega))
      clear hown hb
      go_wp2_with fail
      with_reducible refine (rAt_any _ (dv f) r (P : Int) hr0 (by omega) (by omega) (by omega) (by omega) _ HI.out).mono ?_
      rintro e w3 ⟨rfl, b3⟩
      have hb3 := HB.out.trans (b3.mono HB.out.size)
      clear b3
      go_wp2_with fail
      refine (rRoots_any _ f (pn P K) hq0 hq (by omega) _ (HV.out.keep hb3)).mono ?_
      rintro e w4 ⟨v4, rfl, o4, b4⟩
      have hb4 := hb3.trans (b4.mono hb3.size)
      have hlen := rootsL_le f (pn P K)
      have I4 := Lib.hid (o4.ints (by omega))
      obtain ⟨_, A4, c4, rfl, _, hcr4⟩ := I4.out
      have HCR4 := Lib.hid hcr4
      have HMEM := Lib.hid (fun i (hi : i < (rootsL f (pn P K)).length) => rootsL_at f (pn P K) i hi)
      have HEX := Lib.hid (show R ∈ rootsL f (pn P K) from mem_rootsL.2 ⟨HR0.out.1, HR0.out.2.1, HR0.out.2.2.1⟩)
      have HBD := Lib.hid (fun x (hx : x ∈ rootsL f (pn P K)) => mem_rootsL.1 hx)
      have HRM := Lib.hid HR0.out.2.2.2
      clear hcr4 b4 o4 hb3 hz1
      generalize rootsL f (pn P K) = L at *
      go_wp2_with fail
      go_loop [40] (fun i => ∃ m : Nat, m ≤ L.length ∧ i = .int .i64 m ∧ ∀ j, j < m → L.getD j 0 ≠ R) (fun i => L.length - (intOf i).toNat)
      case atStart => exact ⟨0, by omega, rfl, fun j hj => by omega⟩
      case round =>
        obtain ⟨m, hm5, rfl, hall⟩ := hrel
        have HALL := Lib.hid hall
        clear hall
        by_cases hlt : m < L.length
        · obtain ⟨ad4, rfl, _, hcell4⟩ := HCR4.out (by omega)
          have hcx := hcell4 m _ (getD_get L m hlt)
          have HMM := Lib.hid (HMEM.out m hlt)
          have hxb := HBD.out _ HMM.out
          have hx0 := hxb.1
          have HXR := Lib.hid (fun h : L.getD m 0 % (P : Int) = r => HR.out _ ⟨hxb.1, hxb.2.1, hxb.2.2, h⟩)
          have HNX := Lib.hid (fun h : L.getD m 0 ≠ R => show ∀ j, j < m + 1 → L.getD j 0 ≠ R from fun j hj => by
            by_cases e : j < m
            · exact HALL.out j e
            · obtain rfl : j = m := by omega
              exact h)
          clear hcell4 hxb
          generalize L.getD m 0 = x at *
          by_cases he : x % (P : Int) = r
          · have hee : (x % (P : Int) == r) = true := by rw [beq_iff_eq]; exact he
            have HXX := Lib.hid (HXR.out he)
            clear he
            go_wp2_with fail
            go_ret2
            exact ⟨by rw [HXX.out]; rfl, hb4⟩
          · have hee : (x % (P : Int) == r) = false := by rw [beq_eq_false_iff_ne]; exact he
            have HN2 := Lib.hid (HNX.out (fun h => he (by rw [h]; exact HRM.out)))
            clear he
            go_wp2_with fail
            go_round
            case rel => exact ⟨m + 1, by omega, by go_num, HN2.out⟩
            case measure => simp [intOf]; omega
        · obtain rfl : m = L.length := by omega
          exfalso
          obtain ⟨i, hi, e⟩ := List.getElem_of_mem HEX.out
          exact HALL.out i hi (by simp [hi, e])

end Go.Proofs.Ytdkobkghhnccgaa
