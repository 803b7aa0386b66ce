/- The walk of LiftSquares. -/
import Derived.Test.YtdkobkghhnccgaaJ
namespace Go.Proofs.Ytdkobkghhnccgaa
open Go.RowKit
set_option maxRecDepth 100000 in
set_option maxHeartbeats 8000000 in
theorem liftSquares_bad (a p k : Int) (v : Value) (h : ¬ (PK p k ∧ -1000000 ≤ a ∧ a ≤ 1000000)) (w : World) :
    Calls Try.prog 3 #[.int .i64 a, .int .i64 p, .int .i64 k, v] w fun e w' => e = .returned (.bool true) ∧ Below w.heap.size w w' := by
  have H := Lib.hid h
  clear h
  go_enter Try.func3, Try.ntmps3
  go_wp2_with fail
  refine (Square_no a p k H.out _).mono ?_
  rintro e w1 ⟨rfl, hb⟩
  go_wp2_with fail
  (with_reducible refine (awake_any _).mono ?_)
  rintro e wz ⟨rfl, bz⟩
  have hb9 := hb.trans (bz.mono hb.size)
  go_wp2_with fail
  go_ret
  exact ⟨rfl, hb9⟩
theorem mem_contains {l : List Int} {x : Int} (h : x ∈ l) : l.contains x = true := by simpa using h
theorem rootsL_le (f : List Int) (q : Nat) : (rootsL f q).length ≤ q := by have := rootsk_le f q q; rwa [rootsk_all] at this
theorem rootsL_at (f : List Int) (q i : Nat) (h : i < (rootsL f q).length) : (rootsL f q).getD i 0 ∈ rootsL f q := by
  rw [show (rootsL f q).getD i 0 = (rootsL f q)[i] by simp [h]]
  exact List.getElem_mem h

set_option maxRecDepth 100000 in
set_option maxHeartbeats 32000000 in
theorem liftSquares_1 (a : Int) (ha1 : -1000000 ≤ a) (ha2 : a ≤ 1000000) (P K : Nat) (hP : isP P) (hK : 1 ≤ K) (hq : pn P K ≤ 20000) (hm : P = 2) (v : Value) (f : List Int) (w : World) (hv : Ints w v f) :
    Calls Try.prog 3 #[.int .i64 a, .int .i64 P, .int .i64 K, v] w fun e w' => e = .returned (.bool true) ∧ Below w.heap.size w w' := by
  have HVF := Lib.hid hv
  have HP := Lib.hid hP
  have HQ := Lib.hid hq
  have h2 := hP.pos
  have h13 := hP.le
  have hK14 := pn_k h2 hq
  have hq0 := pn_pos (show 0 < P by omega) K
  have hqb : (((pn P K : Nat) : Int) == 0) = false := by rw [beq_eq_false_iff_ne]; omega
  have hqb2 : ((pn P K) == 0) = false := by rw [beq_eq_false_iff_ne]; omega
  have HM := Lib.hid (fun i (hi : i ≤ K) => (Nat.le_trans (pn_mono (p := P) (by omega) i K hi) hq : pn P i ≤ 20000))
  have HQ1 := Lib.hid (Nat.le_trans (pn_mono (p := P) (by omega) 1 K hK) hq)
  have m1 : decide ((2 : Int) < P) = false := decide_eq_false (by omega)
  have m2 : decide (2 < P) = false := decide_eq_false (by omega)
  have HMEM := Lib.hid (fun i (hi : i < (rootsL (sq a) (pn P K)).length) => rootsL_at (sq a) (pn P K) i hi)
  have HOTH := Lib.hid (fun x (hx : x ∈ rootsL (sq a) (pn P K)) => sq_other a x (pn P K) hq0 hx)
  have HBD := Lib.hid (fun x (hx : x ∈ rootsL (sq a) (pn P K)) => mem_rootsL.1 hx)
  have hlen1 := rootsL_le (sq a) (pn P K)
  have hlen2 := rootsL_le (sq a) (pn P 1)
  obtain ⟨_, Af, cf, rfl, _, _⟩ := hv
  clear hP hm
  have hm2 := HQ1.out
  go_enter Try.func3, Try.ntmps3
  go_wp2_with fail
  refine (Square_yes a ha1 ha2 P K HP.out hK HQ.out _).mono ?_
  rintro e w1 ⟨v1, rfl, o1, b1⟩
  have O1 := Lib.hid o1
  have I1 := Lib.hid (o1.ints (by omega))
  obtain ⟨_, A1, c1, rfl, _, hcr1⟩ := I1.out
  have HCR1 := Lib.hid hcr1
  clear o1 hcr1
  go_wp2_with fail
  refine (rPower_yes P K HP.out hK HQ.out _).mono ?_
  rintro e _ ⟨rfl, rfl⟩
  go_wp2_with fail
  clear hqb hqb2
  go_loop [11, 41] (fun o i => ∃ k : Nat, k ≤ K ∧ i = .int .i64 k ∧ o = .int .i64 (pn P k : Nat)) (fun _ i => K - (intOf i).toNat)
  case atStart => exact ⟨0, by omega, rfl, rfl⟩
  case round =>
    obtain ⟨k, hk, rfl, rfl⟩ := hrel
    by_cases hlt : k < K
    · have hb1 := HM.out (k + 1) hlt
      have hb0 := HM.out k (by omega)
      have HE := Lib.hid (show ((pn P k : Nat) : Int) * (P : Int) = (pn P (k + 1) : Nat) by rw [pn]; simp)
      have hpb := prod_bd hb0 h13
      have hpb1 := hpb.1
      have hpb2 := hpb.2
      clear hpb
      generalize pn P k = a at *
      go_wp2_with fail
      go_round
      case rel => exact ⟨k + 1, by omega, by go_num, by rw [HE.out]⟩
      case measure => simp [intOf]; omega
    · obtain rfl : k = K := by omega
      go_wp2_with fail
      go_loop [49] (fun i => ∃ m : Nat, m ≤ (rootsL (sq a) (pn P k)).length ∧ i = .int .i64 m) (fun i => (rootsL (sq a) (pn P k)).length - (intOf i).toNat)
      case atStart => exact ⟨0, by omega, rfl⟩
      case round =>
        obtain ⟨m, hm5, rfl⟩ := hrel
        by_cases hlt : m < (rootsL (sq a) (pn P k)).length
        · obtain ⟨ad, hA1, _, hcell⟩ := HCR1.out (by omega)
          subst hA1
          have hcx := hcell m _ (getD_get _ m hlt)
          have HMM := Lib.hid (HMEM.out m hlt)
          have HO := Lib.hid (show (rootsL (sq a) (pn P k)).contains (-((rootsL (sq a) (pn P k)).getD m 0) % ((pn P k : Nat) : Int)) = true from by
            have := mem_contains (HOTH.out _ HMM.out)
            rwa [show (((pn P k : Nat) : Int) - (rootsL (sq a) (pn P k)).getD m 0) % ((pn P k : Nat) : Int) = -((rootsL (sq a) (pn P k)).getD m 0) % ((pn P k : Nat) : Int) from by simp] at this)
          obtain ⟨hx0, hx1, hx2⟩ := HBD.out _ HMM.out
          have hz1 := (sq_tmod _ _ _).2 hx2
          have hz : ((((rootsL (sq a) (pn P k)).getD m 0) * ((rootsL (sq a) (pn P k)).getD m 0) - a).tmod ((pn P k : Nat) : Int) != 0) = false := by rw [bne_eq_false_iff_eq]; exact hz1
          have hpx := prod_le hx0 (show _ ≤ (20000 : Int) by omega) hx0 (show _ ≤ (20000 : Int) by omega)
          have hpx1 := hpx.1
          have hpx2 := hpx.2
          have dx1 : decide ((rootsL (sq a) (pn P k)).getD m 0 < 0) = false := decide_eq_false (by omega)
          have dx2 : decide (((pn P k : Nat) : Int) ≤ (rootsL (sq a) (pn P k)).getD m 0) = false := decide_eq_false (by omega)
          clear hcell hx2 hz1 hpx
          generalize (rootsL (sq a) (pn P k)).getD m 0 = x at *
          go_wp2_with fail
          refine (contains_own _ _ _ _ _ O1.out).mono ?_
          rintro e _ ⟨rfl, rfl⟩
          rw [HO.out]
          go_wp2_with fail
          go_round
          case rel => exact ⟨m + 1, by omega, by go_num⟩
          case measure => simp [intOf]; omega
        · obtain rfl : m = (rootsL (sq a) (pn P k)).length := by omega
          go_wp2_with fail
          refine (Square_yes a ha1 ha2 P 1 HP.out (by omega) HQ1.out _).mono ?_
          rintro e w2 ⟨v2, rfl, o2, b2⟩
          have I2 := Lib.hid (o2.ints (by omega))
          obtain ⟨_, A2, c2, rfl, _, _⟩ := I2.out
          have hb := b1.trans (b2.mono b1.size)
          clear o2 b2
          go_wp2_with fail
          refine (list_any _ f _ (HVF.out.keep hb)).mono ?_
          rintro e w4 ⟨v4, rfl, o4, b4⟩
          have hb4 := hb.trans (b4.mono hb.size)
          clear b4 hb
          go_wp2_with fail
          clear m1 m2 
          by_cases hpf : Poly f
          · have HPT := Lib.hid (Poly.take.2 hpf)
            have HPF := Lib.hid hpf
            clear hpf
            refine (Roots_yes _ _ (f.take 9) P k HP.out hK HQ.out HPT.out _ o4).mono ?_
            rintro e w5 ⟨v5, rfl, o5, b5⟩
            have O5 := Lib.hid o5
            have hb5 := hb4.trans (b5.mono hb4.size)
            clear b5 hb4 o4 o5
            go_wp2_with fail
            refine (list_any _ f _ (HVF.out.keep hb5)).mono ?_
            rintro e w6 ⟨v6, rfl, o6, b6⟩
            have O5b := Lib.hid (O5.out.same (fun b _ hlt => b6.block b hlt))
            have hb6 := hb5.trans (b6.mono hb5.size)
            clear b6 hb5
            obtain ⟨K2, hK2⟩ : ∃ K2 : Nat, max ((k : Int) - 1) 1 = K2 := ⟨max (k - 1) 1, by omega⟩
            have hK21 : 1 ≤ K2 := by omega
            have HQ2 := Lib.hid (Nat.le_trans (pn_mono (p := P) (by omega) K2 k (by omega)) HQ.out)
            have HK2 := Lib.hid (show 1 < k → K2 = k - 1 from fun _ => by omega)
            have hK2k : K2 ≤ k := by omega
            go_wp2_with fail
            clear hK2
            refine (Roots_yes _ _ (f.take 9) P K2 HP.out hK21 HQ2.out HPT.out _ o6).mono ?_
            rintro e w7 ⟨v7, rfl, o7, b7⟩
            have O7 := Lib.hid o7
            have O5c := Lib.hid (O5b.out.same (fun b _ hlt => b7.block b hlt))
            have hb7 := hb6.trans (b7.mono hb6.size)
            have I5 := Lib.hid (O5c.out.ints (by have := rootsL_le (f.take 9) (pn P k); have := HQ.out; omega))
            clear b7 hb6 o6 o7
            obtain ⟨_, A5, c5, rfl, _, hcr5⟩ := I5.out
            have HCR5 := Lib.hid hcr5
            clear hcr5
            have HMEM := Lib.hid (fun i (hi : i < (rootsL (f.take 9) (pn P k)).length) => rootsL_at (f.take 9) (pn P k) i hi)
            have HDOWN := Lib.hid (fun x (hx : x ∈ rootsL (f.take 9) (pn P k)) => roots_down (f.take 9) P K2 k (by omega) (by omega) x hx)
            have HNON := Lib.hid (fun x (hx : x ∈ rootsL (f.take 9) (pn P k)) => (mem_rootsL.1 hx).1)
            have hlen5 := rootsL_le (f.take 9) (pn P k)
            generalize rootsL (f.take 9) (pn P k) = L5 at *
            go_wp2_with fail
            go_loop [151] (fun i => ∃ m : Nat, m ≤ L5.length ∧ i = .int .i64 m) (fun i => L5.length - (intOf i).toNat)
            case atStart => exact ⟨0, by omega, rfl⟩
            case round =>
              obtain ⟨m, hm5, rfl⟩ := hrel
              by_cases hlt : m < L5.length
              · obtain ⟨ad, rfl, _, hcell⟩ := HCR5.out (by omega)
                have hcx := hcell m _ (getD_get L5 m hlt)
                have hx0 := HNON.out _ (HMEM.out m hlt)
                have HD := Lib.hid (mem_contains (HDOWN.out _ (HMEM.out m hlt)))
                generalize L5.getD m 0 = x at *
                clear hcell
                by_cases hk1 : 1 < k
                · have hk1a : decide ((1 : Int) < k) = true := decide_eq_true (by omega)
                  have hk1b : decide (1 < k) = true := decide_eq_true hk1
                  have hK2e := HK2.out hk1
                  have HPNK := Lib.hid (show pn P k = pn P K2 * P by
                    have e : pn P (k - 1 + 1) = pn P (k - 1) * P := rfl
                    rw [show k - 1 + 1 = k by omega] at e
                    rw [hK2e]; exact e)
                  have HDV := Lib.hid (show ((pn P k : Nat) : Int) / (P : Int) = (pn P K2 : Nat) by
                    rw [HPNK.out, Int.natCast_mul]
                    exact Int.mul_ediv_cancel _ (by omega))
                  have hpn2 := pn_pos (show 0 < P by omega) K2
                  have hpn3 := HQ2.out
                  have hdv1 := HDV.out
                  have hdv2 : ((pn P k : Nat) : Int).tdiv (P : Int) = (pn P K2 : Nat) := by rw [← HDV.out]; exact Int.tdiv_eq_ediv_of_nonneg (by omega)
                  have hdv3 : (((pn P K2 : Nat) : Int) == 0) = false := by rw [beq_eq_false_iff_ne]; omega
                  have hdv4 : (pn P K2 == 0) = false := by rw [beq_eq_false_iff_ne]; omega
                  clear hK2e
                  go_wp2_with fail
                  refine (contains_own _ _ _ _ _ O7.out).mono ?_
                  rintro e _ ⟨rfl, rfl⟩
                  clear hdv1 hdv2 hdv3 hdv4
                  rw [HD.out]
                  go_wp2_with fail
                  go_round
                  case rel => exact ⟨m + 1, by omega, by go_num⟩
                  case measure => simp [intOf]; omega
                · have hk1a : decide ((1 : Int) < k) = false := decide_eq_false (by omega)
                  have hk1b : decide (1 < k) = false := decide_eq_false hk1
                  go_wp2_with fail
                  go_round
                  case rel => exact ⟨m + 1, by omega, by go_num⟩
                  case measure => simp [intOf]; omega
              · obtain rfl : m = L5.length := by omega
                go_wp2_with fail
                (with_reducible refine (awake_any _).mono ?_)
                rintro e wz ⟨rfl, bz⟩
                have hb9 := hb7.trans (bz.mono hb7.size)
                go_wp2_with fail
                go_ret
                exact ⟨rfl, hb9⟩
          · have HPF := Lib.hid hpf
            clear hpf
            refine (Roots_no _ _ (f.take 9) P k (fun hh => HPF.out (Poly.take.1 hh.2)) _ o4).mono ?_
            rintro e w5 ⟨rfl, b5⟩
            have hb5 := hb4.trans (b5.mono hb4.size)
            clear b5 hb4 o4
            go_wp2_with fail
            refine (list_any _ f _ (HVF.out.keep hb5)).mono ?_
            rintro e w6 ⟨v6, rfl, o6, b6⟩
            have hb6 := hb5.trans (b6.mono hb5.size)
            clear b6 hb5
            go_wp2_with fail
            refine (Roots_no _ _ (f.take 9) P _ (fun hh => HPF.out (Poly.take.1 hh.2)) _ o6).mono ?_
            rintro e w7 ⟨rfl, b7⟩
            have hb7 := hb6.trans (b7.mono hb6.size)
            clear b7 hb6 o6
            go_wp2_with fail
            (with_reducible refine (awake_any _).mono ?_)
            rintro e wz ⟨rfl, bz⟩
            have hb9 := hb7.trans (bz.mono hb7.size)
            go_wp2_with fail
            go_ret
            exact ⟨rfl, hb9⟩

set_option maxRecDepth 100000 in
set_option maxHeartbeats 32000000 in
theorem liftSquares_2 (a : Int) (ha1 : -1000000 ≤ a) (ha2 : a ≤ 1000000) (P K : Nat) (hP : isP P) (hK : 1 ≤ K) (hq : pn P K ≤ 20000) (hm : 2 < P) (ha : a % P = 0) (v : Value) (f : List Int) (w : World) (hv : Ints w v f) :
    Calls Try.prog 3 #[.int .i64 a, .int .i64 P, .int .i64 K, v] w fun e w' => e = .returned (.bool true) ∧ Below w.heap.size w w' := by
  have HVF := Lib.hid hv
  have HP := Lib.hid hP
  have HQ := Lib.hid hq
  have h2 := hP.pos
  have h13 := hP.le
  have hK14 := pn_k h2 hq
  have hq0 := pn_pos (show 0 < P by omega) K
  have hqb : (((pn P K : Nat) : Int) == 0) = false := by rw [beq_eq_false_iff_ne]; omega
  have hqb2 : ((pn P K) == 0) = false := by rw [beq_eq_false_iff_ne]; omega
  have HM := Lib.hid (fun i (hi : i ≤ K) => (Nat.le_trans (pn_mono (p := P) (by omega) i K hi) hq : pn P i ≤ 20000))
  have HQ1 := Lib.hid (Nat.le_trans (pn_mono (p := P) (by omega) 1 K hK) hq)
  have m1 : decide ((2 : Int) < P) = true := decide_eq_true (by omega)
  have m2 : decide (2 < P) = true := decide_eq_true (by omega)
  have m3 : (a.tmod P != 0) = false := by rw [bne_eq_false_iff_eq, ← Int.dvd_iff_tmod_eq_zero]; exact Int.dvd_of_emod_eq_zero ha
  have HMEM := Lib.hid (fun i (hi : i < (rootsL (sq a) (pn P K)).length) => rootsL_at (sq a) (pn P K) i hi)
  have HOTH := Lib.hid (fun x (hx : x ∈ rootsL (sq a) (pn P K)) => sq_other a x (pn P K) hq0 hx)
  have HBD := Lib.hid (fun x (hx : x ∈ rootsL (sq a) (pn P K)) => mem_rootsL.1 hx)
  have hlen1 := rootsL_le (sq a) (pn P K)
  have hlen2 := rootsL_le (sq a) (pn P 1)
  obtain ⟨_, Af, cf, rfl, _, _⟩ := hv
  clear hP hm ha
  have hm2 := HQ1.out
  go_enter Try.func3, Try.ntmps3
  go_wp2_with fail
  refine (Square_yes a ha1 ha2 P K HP.out hK HQ.out _).mono ?_
  rintro e w1 ⟨v1, rfl, o1, b1⟩
  have O1 := Lib.hid o1
  have I1 := Lib.hid (o1.ints (by omega))
  obtain ⟨_, A1, c1, rfl, _, hcr1⟩ := I1.out
  have HCR1 := Lib.hid hcr1
  clear o1 hcr1
  go_wp2_with fail
  refine (rPower_yes P K HP.out hK HQ.out _).mono ?_
  rintro e _ ⟨rfl, rfl⟩
  go_wp2_with fail
  clear hqb hqb2
  go_loop [11, 41] (fun o i => ∃ k : Nat, k ≤ K ∧ i = .int .i64 k ∧ o = .int .i64 (pn P k : Nat)) (fun _ i => K - (intOf i).toNat)
  case atStart => exact ⟨0, by omega, rfl, rfl⟩
  case round =>
    obtain ⟨k, hk, rfl, rfl⟩ := hrel
    by_cases hlt : k < K
    · have hb1 := HM.out (k + 1) hlt
      have hb0 := HM.out k (by omega)
      have HE := Lib.hid (show ((pn P k : Nat) : Int) * (P : Int) = (pn P (k + 1) : Nat) by rw [pn]; simp)
      have hpb := prod_bd hb0 h13
      have hpb1 := hpb.1
      have hpb2 := hpb.2
      clear hpb
      generalize pn P k = a at *
      go_wp2_with fail
      go_round
      case rel => exact ⟨k + 1, by omega, by go_num, by rw [HE.out]⟩
      case measure => simp [intOf]; omega
    · obtain rfl : k = K := by omega
      go_wp2_with fail
      go_loop [49] (fun i => ∃ m : Nat, m ≤ (rootsL (sq a) (pn P k)).length ∧ i = .int .i64 m) (fun i => (rootsL (sq a) (pn P k)).length - (intOf i).toNat)
      case atStart => exact ⟨0, by omega, rfl⟩
      case round =>
        obtain ⟨m, hm5, rfl⟩ := hrel
        by_cases hlt : m < (rootsL (sq a) (pn P k)).length
        · obtain ⟨ad, hA1, _, hcell⟩ := HCR1.out (by omega)
          subst hA1
          have hcx := hcell m _ (getD_get _ m hlt)
          have HMM := Lib.hid (HMEM.out m hlt)
          have HO := Lib.hid (show (rootsL (sq a) (pn P k)).contains (-((rootsL (sq a) (pn P k)).getD m 0) % ((pn P k : Nat) : Int)) = true from by
            have := mem_contains (HOTH.out _ HMM.out)
            rwa [show (((pn P k : Nat) : Int) - (rootsL (sq a) (pn P k)).getD m 0) % ((pn P k : Nat) : Int) = -((rootsL (sq a) (pn P k)).getD m 0) % ((pn P k : Nat) : Int) from by simp] at this)
          obtain ⟨hx0, hx1, hx2⟩ := HBD.out _ HMM.out
          have hz1 := (sq_tmod _ _ _).2 hx2
          have hz : ((((rootsL (sq a) (pn P k)).getD m 0) * ((rootsL (sq a) (pn P k)).getD m 0) - a).tmod ((pn P k : Nat) : Int) != 0) = false := by rw [bne_eq_false_iff_eq]; exact hz1
          have hpx := prod_le hx0 (show _ ≤ (20000 : Int) by omega) hx0 (show _ ≤ (20000 : Int) by omega)
          have hpx1 := hpx.1
          have hpx2 := hpx.2
          have dx1 : decide ((rootsL (sq a) (pn P k)).getD m 0 < 0) = false := decide_eq_false (by omega)
          have dx2 : decide (((pn P k : Nat) : Int) ≤ (rootsL (sq a) (pn P k)).getD m 0) = false := decide_eq_false (by omega)
          clear hcell hx2 hz1 hpx
          generalize (rootsL (sq a) (pn P k)).getD m 0 = x at *
          go_wp2_with fail
          refine (contains_own _ _ _ _ _ O1.out).mono ?_
          rintro e _ ⟨rfl, rfl⟩
          rw [HO.out]
          go_wp2_with fail
          go_round
          case rel => exact ⟨m + 1, by omega, by go_num⟩
          case measure => simp [intOf]; omega
        · obtain rfl : m = (rootsL (sq a) (pn P k)).length := by omega
          go_wp2_with fail
          refine (Square_yes a ha1 ha2 P 1 HP.out (by omega) HQ1.out _).mono ?_
          rintro e w2 ⟨v2, rfl, o2, b2⟩
          have I2 := Lib.hid (o2.ints (by omega))
          obtain ⟨_, A2, c2, rfl, _, _⟩ := I2.out
          have hb := b1.trans (b2.mono b1.size)
          clear o2 b2
          go_wp2_with fail
          refine (list_any _ f _ (HVF.out.keep hb)).mono ?_
          rintro e w4 ⟨v4, rfl, o4, b4⟩
          have hb4 := hb.trans (b4.mono hb.size)
          clear b4 hb
          go_wp2_with fail
          clear m1 m2 m3
          by_cases hpf : Poly f
          · have HPT := Lib.hid (Poly.take.2 hpf)
            have HPF := Lib.hid hpf
            clear hpf
            refine (Roots_yes _ _ (f.take 9) P k HP.out hK HQ.out HPT.out _ o4).mono ?_
            rintro e w5 ⟨v5, rfl, o5, b5⟩
            have O5 := Lib.hid o5
            have hb5 := hb4.trans (b5.mono hb4.size)
            clear b5 hb4 o4 o5
            go_wp2_with fail
            refine (list_any _ f _ (HVF.out.keep hb5)).mono ?_
            rintro e w6 ⟨v6, rfl, o6, b6⟩
            have O5b := Lib.hid (O5.out.same (fun b _ hlt => b6.block b hlt))
            have hb6 := hb5.trans (b6.mono hb5.size)
            clear b6 hb5
            obtain ⟨K2, hK2⟩ : ∃ K2 : Nat, max ((k : Int) - 1) 1 = K2 := ⟨max (k - 1) 1, by omega⟩
            have hK21 : 1 ≤ K2 := by omega
            have HQ2 := Lib.hid (Nat.le_trans (pn_mono (p := P) (by omega) K2 k (by omega)) HQ.out)
            have HK2 := Lib.hid (show 1 < k → K2 = k - 1 from fun _ => by omega)
            have hK2k : K2 ≤ k := by omega
            go_wp2_with fail
            clear hK2
            refine (Roots_yes _ _ (f.take 9) P K2 HP.out hK21 HQ2.out HPT.out _ o6).mono ?_
            rintro e w7 ⟨v7, rfl, o7, b7⟩
            have O7 := Lib.hid o7
            have O5c := Lib.hid (O5b.out.same (fun b _ hlt => b7.block b hlt))
            have hb7 := hb6.trans (b7.mono hb6.size)
            have I5 := Lib.hid (O5c.out.ints (by have := rootsL_le (f.take 9) (pn P k); have := HQ.out; omega))
            clear b7 hb6 o6 o7
            obtain ⟨_, A5, c5, rfl, _, hcr5⟩ := I5.out
            have HCR5 := Lib.hid hcr5
            clear hcr5
            have HMEM := Lib.hid (fun i (hi : i < (rootsL (f.take 9) (pn P k)).length) => rootsL_at (f.take 9) (pn P k) i hi)
            have HDOWN := Lib.hid (fun x (hx : x ∈ rootsL (f.take 9) (pn P k)) => roots_down (f.take 9) P K2 k (by omega) (by omega) x hx)
            have HNON := Lib.hid (fun x (hx : x ∈ rootsL (f.take 9) (pn P k)) => (mem_rootsL.1 hx).1)
            have hlen5 := rootsL_le (f.take 9) (pn P k)
            generalize rootsL (f.take 9) (pn P k) = L5 at *
            go_wp2_with fail
            go_loop [151] (fun i => ∃ m : Nat, m ≤ L5.length ∧ i = .int .i64 m) (fun i => L5.length - (intOf i).toNat)
            case atStart => exact ⟨0, by omega, rfl⟩
            case round =>
              obtain ⟨m, hm5, rfl⟩ := hrel
              by_cases hlt : m < L5.length
              · obtain ⟨ad, rfl, _, hcell⟩ := HCR5.out (by omega)
                have hcx := hcell m _ (getD_get L5 m hlt)
                have hx0 := HNON.out _ (HMEM.out m hlt)
                have HD := Lib.hid (mem_contains (HDOWN.out _ (HMEM.out m hlt)))
                generalize L5.getD m 0 = x at *
                clear hcell
                by_cases hk1 : 1 < k
                · have hk1a : decide ((1 : Int) < k) = true := decide_eq_true (by omega)
                  have hk1b : decide (1 < k) = true := decide_eq_true hk1
                  have hK2e := HK2.out hk1
                  have HPNK := Lib.hid (show pn P k = pn P K2 * P by
                    have e : pn P (k - 1 + 1) = pn P (k - 1) * P := rfl
                    rw [show k - 1 + 1 = k by omega] at e
                    rw [hK2e]; exact e)
                  have HDV := Lib.hid (show ((pn P k : Nat) : Int) / (P : Int) = (pn P K2 : Nat) by
                    rw [HPNK.out, Int.natCast_mul]
                    exact Int.mul_ediv_cancel _ (by omega))
                  have hpn2 := pn_pos (show 0 < P by omega) K2
                  have hpn3 := HQ2.out
                  have hdv1 := HDV.out
                  have hdv2 : ((pn P k : Nat) : Int).tdiv (P : Int) = (pn P K2 : Nat) := by rw [← HDV.out]; exact Int.tdiv_eq_ediv_of_nonneg (by omega)
                  have hdv3 : (((pn P K2 : Nat) : Int) == 0) = false := by rw [beq_eq_false_iff_ne]; omega
                  have hdv4 : (pn P K2 == 0) = false := by rw [beq_eq_false_iff_ne]; omega
                  clear hK2e
                  go_wp2_with fail
                  refine (contains_own _ _ _ _ _ O7.out).mono ?_
                  rintro e _ ⟨rfl, rfl⟩
                  clear hdv1 hdv2 hdv3 hdv4
                  rw [HD.out]
                  go_wp2_with fail
                  go_round
                  case rel => exact ⟨m + 1, by omega, by go_num⟩
                  case measure => simp [intOf]; omega
                · have hk1a : decide ((1 : Int) < k) = false := decide_eq_false (by omega)
                  have hk1b : decide (1 < k) = false := decide_eq_false hk1
                  go_wp2_with fail
                  go_round
                  case rel => exact ⟨m + 1, by omega, by go_num⟩
                  case measure => simp [intOf]; omega
              · obtain rfl : m = L5.length := by omega
                go_wp2_with fail
                (with_reducible refine (awake_any _).mono ?_)
                rintro e wz ⟨rfl, bz⟩
                have hb9 := hb7.trans (bz.mono hb7.size)
                go_wp2_with fail
                go_ret
                exact ⟨rfl, hb9⟩
          · have HPF := Lib.hid hpf
            clear hpf
            refine (Roots_no _ _ (f.take 9) P k (fun hh => HPF.out (Poly.take.1 hh.2)) _ o4).mono ?_
            rintro e w5 ⟨rfl, b5⟩
            have hb5 := hb4.trans (b5.mono hb4.size)
            clear b5 hb4 o4
            go_wp2_with fail
            refine (list_any _ f _ (HVF.out.keep hb5)).mono ?_
            rintro e w6 ⟨v6, rfl, o6, b6⟩
            have hb6 := hb5.trans (b6.mono hb5.size)
            clear b6 hb5
            go_wp2_with fail
            refine (Roots_no _ _ (f.take 9) P _ (fun hh => HPF.out (Poly.take.1 hh.2)) _ o6).mono ?_
            rintro e w7 ⟨rfl, b7⟩
            have hb7 := hb6.trans (b7.mono hb6.size)
            clear b7 hb6 o6
            go_wp2_with fail
            (with_reducible refine (awake_any _).mono ?_)
            rintro e wz ⟨rfl, bz⟩
            have hb9 := hb7.trans (bz.mono hb7.size)
            go_wp2_with fail
            go_ret
            exact ⟨rfl, hb9⟩

set_option maxRecDepth 100000 in
set_option maxHeartbeats 32000000 in
theorem liftSquares_3 (a : Int) (ha1 : -1000000 ≤ a) (ha2 : a ≤ 1000000) (P K : Nat) (hP : isP P) (hK : 1 ≤ K) (hq : pn P K ≤ 20000) (hm : 2 < P) (ha : a % P ≠ 0) (hl : (rootsL (sq a) (pn P K)).length = 0) (hl2 : (rootsL (sq a) (pn P 1)).length = 0) (v : Value) (f : List Int) (w : World) (hv : Ints w v f) :
    Calls Try.prog 3 #[.int .i64 a, .int .i64 P, .int .i64 K, v] w fun e w' => e = .returned (.bool true) ∧ Below w.heap.size w w' := by
  have HVF := Lib.hid hv
  have HP := Lib.hid hP
  have HQ := Lib.hid hq
  have h2 := hP.pos
  have h13 := hP.le
  have hK14 := pn_k h2 hq
  have hq0 := pn_pos (show 0 < P by omega) K
  have hqb : (((pn P K : Nat) : Int) == 0) = false := by rw [beq_eq_false_iff_ne]; omega
  have hqb2 : ((pn P K) == 0) = false := by rw [beq_eq_false_iff_ne]; omega
  have HM := Lib.hid (fun i (hi : i ≤ K) => (Nat.le_trans (pn_mono (p := P) (by omega) i K hi) hq : pn P i ≤ 20000))
  have HQ1 := Lib.hid (Nat.le_trans (pn_mono (p := P) (by omega) 1 K hK) hq)
  have m1 : decide ((2 : Int) < P) = true := decide_eq_true (by omega)
  have m2 : decide (2 < P) = true := decide_eq_true (by omega)
  have m3 : (a.tmod P != 0) = true := by rw [bne_iff_ne]; intro h; exact ha (Int.emod_eq_zero_of_dvd (Int.dvd_of_tmod_eq_zero h))
  have m4 : (((rootsL (sq a) (pn P K)).length : Int) != ((rootsL (sq a) (pn P 1)).length : Int)) = false := by rw [bne_eq_false_iff_eq]; omega
  have m5 : ((rootsL (sq a) (pn P K)).length != (rootsL (sq a) (pn P 1)).length) = false := by rw [bne_eq_false_iff_eq]; omega
  have m6 : (((rootsL (sq a) (pn P K)).length : Int) != 0) = false := by rw [bne_eq_false_iff_eq]; omega
  have m7 : ((rootsL (sq a) (pn P K)).length != 0) = false := by rw [bne_eq_false_iff_eq]; omega
  have HMEM := Lib.hid (fun i (hi : i < (rootsL (sq a) (pn P K)).length) => rootsL_at (sq a) (pn P K) i hi)
  have HOTH := Lib.hid (fun x (hx : x ∈ rootsL (sq a) (pn P K)) => sq_other a x (pn P K) hq0 hx)
  have HBD := Lib.hid (fun x (hx : x ∈ rootsL (sq a) (pn P K)) => mem_rootsL.1 hx)
  have hlen1 := rootsL_le (sq a) (pn P K)
  have hlen2 := rootsL_le (sq a) (pn P 1)
  obtain ⟨_, Af, cf, rfl, _, _⟩ := hv
  clear hP hm ha hl hl2
  have hm2 := HQ1.out
  go_enter Try.func3, Try.ntmps3
  go_wp2_with fail
  refine (Square_yes a ha1 ha2 P K HP.out hK HQ.out _).mono ?_
  rintro e w1 ⟨v1, rfl, o1, b1⟩
  have O1 := Lib.hid o1
  have I1 := Lib.hid (o1.ints (by omega))
  obtain ⟨_, A1, c1, rfl, _, hcr1⟩ := I1.out
  have HCR1 := Lib.hid hcr1
  clear o1 hcr1
  go_wp2_with fail
  refine (rPower_yes P K HP.out hK HQ.out _).mono ?_
  rintro e _ ⟨rfl, rfl⟩
  go_wp2_with fail
  clear hqb hqb2
  go_loop [11, 41] (fun o i => ∃ k : Nat, k ≤ K ∧ i = .int .i64 k ∧ o = .int .i64 (pn P k : Nat)) (fun _ i => K - (intOf i).toNat)
  case atStart => exact ⟨0, by omega, rfl, rfl⟩
  case round =>
    obtain ⟨k, hk, rfl, rfl⟩ := hrel
    by_cases hlt : k < K
    · have hb1 := HM.out (k + 1) hlt
      have hb0 := HM.out k (by omega)
      have HE := Lib.hid (show ((pn P k : Nat) : Int) * (P : Int) = (pn P (k + 1) : Nat) by rw [pn]; simp)
      have hpb := prod_bd hb0 h13
      have hpb1 := hpb.1
      have hpb2 := hpb.2
      clear hpb
      generalize pn P k = a at *
      go_wp2_with fail
      go_round
      case rel => exact ⟨k + 1, by omega, by go_num, by rw [HE.out]⟩
      case measure => simp [intOf]; omega
    · obtain rfl : k = K := by omega
      go_wp2_with fail
      go_loop [49] (fun i => ∃ m : Nat, m ≤ (rootsL (sq a) (pn P k)).length ∧ i = .int .i64 m) (fun i => (rootsL (sq a) (pn P k)).length - (intOf i).toNat)
      case atStart => exact ⟨0, by omega, rfl⟩
      case round =>
        obtain ⟨m, hm5, rfl⟩ := hrel
        by_cases hlt : m < (rootsL (sq a) (pn P k)).length
        · obtain ⟨ad, hA1, _, hcell⟩ := HCR1.out (by omega)
          subst hA1
          have hcx := hcell m _ (getD_get _ m hlt)
          have HMM := Lib.hid (HMEM.out m hlt)
          have HO := Lib.hid (show (rootsL (sq a) (pn P k)).contains (-((rootsL (sq a) (pn P k)).getD m 0) % ((pn P k : Nat) : Int)) = true from by
            have := mem_contains (HOTH.out _ HMM.out)
            rwa [show (((pn P k : Nat) : Int) - (rootsL (sq a) (pn P k)).getD m 0) % ((pn P k : Nat) : Int) = -((rootsL (sq a) (pn P k)).getD m 0) % ((pn P k : Nat) : Int) from by simp] at this)
          obtain ⟨hx0, hx1, hx2⟩ := HBD.out _ HMM.out
          have hz1 := (sq_tmod _ _ _).2 hx2
          have hz : ((((rootsL (sq a) (pn P k)).getD m 0) * ((rootsL (sq a) (pn P k)).getD m 0) - a).tmod ((pn P k : Nat) : Int) != 0) = false := by rw [bne_eq_false_iff_eq]; exact hz1
          have hpx := prod_le hx0 (show _ ≤ (20000 : Int) by omega) hx0 (show _ ≤ (20000 : Int) by omega)
          have hpx1 := hpx.1
          have hpx2 := hpx.2
          have dx1 : decide ((rootsL (sq a) (pn P k)).getD m 0 < 0) = false := decide_eq_false (by omega)
          have dx2 : decide (((pn P k : Nat) : Int) ≤ (rootsL (sq a) (pn P k)).getD m 0) = false := decide_eq_false (by omega)
          clear hcell hx2 hz1 hpx
          generalize (rootsL (sq a) (pn P k)).getD m 0 = x at *
          go_wp2_with fail
          refine (contains_own _ _ _ _ _ O1.out).mono ?_
          rintro e _ ⟨rfl, rfl⟩
          rw [HO.out]
          go_wp2_with fail
          go_round
          case rel => exact ⟨m + 1, by omega, by go_num⟩
          case measure => simp [intOf]; omega
        · obtain rfl : m = (rootsL (sq a) (pn P k)).length := by omega
          go_wp2_with fail
          refine (Square_yes a ha1 ha2 P 1 HP.out (by omega) HQ1.out _).mono ?_
          rintro e w2 ⟨v2, rfl, o2, b2⟩
          have I2 := Lib.hid (o2.ints (by omega))
          obtain ⟨_, A2, c2, rfl, _, _⟩ := I2.out
          have hb := b1.trans (b2.mono b1.size)
          clear o2 b2
          go_wp2_with fail
          refine (list_any _ f _ (HVF.out.keep hb)).mono ?_
          rintro e w4 ⟨v4, rfl, o4, b4⟩
          have hb4 := hb.trans (b4.mono hb.size)
          clear b4 hb
          go_wp2_with fail
          clear m1 m2 m3 m4 m5 m6 m7
          by_cases hpf : Poly f
          · have HPT := Lib.hid (Poly.take.2 hpf)
            have HPF := Lib.hid hpf
            clear hpf
            refine (Roots_yes _ _ (f.take 9) P k HP.out hK HQ.out HPT.out _ o4).mono ?_
            rintro e w5 ⟨v5, rfl, o5, b5⟩
            have O5 := Lib.hid o5
            have hb5 := hb4.trans (b5.mono hb4.size)
            clear b5 hb4 o4 o5
            go_wp2_with fail
            refine (list_any _ f _ (HVF.out.keep hb5)).mono ?_
            rintro e w6 ⟨v6, rfl, o6, b6⟩
            have O5b := Lib.hid (O5.out.same (fun b _ hlt => b6.block b hlt))
            have hb6 := hb5.trans (b6.mono hb5.size)
            clear b6 hb5
            obtain ⟨K2, hK2⟩ : ∃ K2 : Nat, max ((k : Int) - 1) 1 = K2 := ⟨max (k - 1) 1, by omega⟩
            have hK21 : 1 ≤ K2 := by omega
            have HQ2 := Lib.hid (Nat.le_trans (pn_mono (p := P) (by omega) K2 k (by omega)) HQ.out)
            have HK2 := Lib.hid (show 1 < k → K2 = k - 1 from fun _ => by omega)
            have hK2k : K2 ≤ k := by omega
            go_wp2_with fail
            clear hK2
            refine (Roots_yes _ _ (f.take 9) P K2 HP.out hK21 HQ2.out HPT.out _ o6).mono ?_
            rintro e w7 ⟨v7, rfl, o7, b7⟩
            have O7 := Lib.hid o7
            have O5c := Lib.hid (O5b.out.same (fun b _ hlt => b7.block b hlt))
            have hb7 := hb6.trans (b7.mono hb6.size)
            have I5 := Lib.hid (O5c.out.ints (by have := rootsL_le (f.take 9) (pn P k); have := HQ.out; omega))
            clear b7 hb6 o6 o7
            obtain ⟨_, A5, c5, rfl, _, hcr5⟩ := I5.out
            have HCR5 := Lib.hid hcr5
            clear hcr5
            have HMEM := Lib.hid (fun i (hi : i < (rootsL (f.take 9) (pn P k)).length) => rootsL_at (f.take 9) (pn P k) i hi)
            have HDOWN := Lib.hid (fun x (hx : x ∈ rootsL (f.take 9) (pn P k)) => roots_down (f.take 9) P K2 k (by omega) (by omega) x hx)
            have HNON := Lib.hid (fun x (hx : x ∈ rootsL (f.take 9) (pn P k)) => (mem_rootsL.1 hx).1)
            have hlen5 := rootsL_le (f.take 9) (pn P k)
            generalize rootsL (f.take 9) (pn P k) = L5 at *
            go_wp2_with fail
            go_loop [151] (fun i => ∃ m : Nat, m ≤ L5.length ∧ i = .int .i64 m) (fun i => L5.length - (intOf i).toNat)
            case atStart => exact ⟨0, by omega, rfl⟩
            case round =>
              obtain ⟨m, hm5, rfl⟩ := hrel
              by_cases hlt : m < L5.length
              · obtain ⟨ad, rfl, _, hcell⟩ := HCR5.out (by omega)
                have hcx := hcell m _ (getD_get L5 m hlt)
                have hx0 := HNON.out _ (HMEM.out m hlt)
                have HD := Lib.hid (mem_contains (HDOWN.out _ (HMEM.out m hlt)))
                generalize L5.getD m 0 = x at *
                clear hcell
                by_cases hk1 : 1 < k
                · have hk1a : decide ((1 : Int) < k) = true := decide_eq_true (by omega)
                  have hk1b : decide (1 < k) = true := decide_eq_true hk1
                  have hK2e := HK2.out hk1
                  have HPNK := Lib.hid (show pn P k = pn P K2 * P by
                    have e : pn P (k - 1 + 1) = pn P (k - 1) * P := rfl
                    rw [show k - 1 + 1 = k by omega] at e
                    rw [hK2e]; exact e)
                  have HDV := Lib.hid (show ((pn P k : Nat) : Int) / (P : Int) = (pn P K2 : Nat) by
                    rw [HPNK.out, Int.natCast_mul]
                    exact Int.mul_ediv_cancel _ (by omega))
                  have hpn2 := pn_pos (show 0 < P by omega) K2
                  have hpn3 := HQ2.out
                  have hdv1 := HDV.out
                  have hdv2 : ((pn P k : Nat) : Int).tdiv (P : Int) = (pn P K2 : Nat) := by rw [← HDV.out]; exact Int.tdiv_eq_ediv_of_nonneg (by omega)
                  have hdv3 : (((pn P K2 : Nat) : Int) == 0) = false := by rw [beq_eq_false_iff_ne]; omega
                  have hdv4 : (pn P K2 == 0) = false := by rw [beq_eq_false_iff_ne]; omega
                  clear hK2e
                  go_wp2_with fail
                  refine (contains_own _ _ _ _ _ O7.out).mono ?_
                  rintro e _ ⟨rfl, rfl⟩
                  clear hdv1 hdv2 hdv3 hdv4
                  rw [HD.out]
                  go_wp2_with fail
                  go_round
                  case rel => exact ⟨m + 1, by omega, by go_num⟩
                  case measure => simp [intOf]; omega
                · have hk1a : decide ((1 : Int) < k) = false := decide_eq_false (by omega)
                  have hk1b : decide (1 < k) = false := decide_eq_false hk1
                  go_wp2_with fail
                  go_round
                  case rel => exact ⟨m + 1, by omega, by go_num⟩
                  case measure => simp [intOf]; omega
              · obtain rfl : m = L5.length := by omega
                go_wp2_with fail
                (with_reducible refine (awake_any _).mono ?_)
                rintro e wz ⟨rfl, bz⟩
                have hb9 := hb7.trans (bz.mono hb7.size)
                go_wp2_with fail
                go_ret
                exact ⟨rfl, hb9⟩
          · have HPF := Lib.hid hpf
            clear hpf
            refine (Roots_no _ _ (f.take 9) P k (fun hh => HPF.out (Poly.take.1 hh.2)) _ o4).mono ?_
            rintro e w5 ⟨rfl, b5⟩
            have hb5 := hb4.trans (b5.mono hb4.size)
            clear b5 hb4 o4
            go_wp2_with fail
            refine (list_any _ f _ (HVF.out.keep hb5)).mono ?_
            rintro e w6 ⟨v6, rfl, o6, b6⟩
            have hb6 := hb5.trans (b6.mono hb5.size)
            clear b6 hb5
            go_wp2_with fail
            refine (Roots_no _ _ (f.take 9) P _ (fun hh => HPF.out (Poly.take.1 hh.2)) _ o6).mono ?_
            rintro e w7 ⟨rfl, b7⟩
            have hb7 := hb6.trans (b7.mono hb6.size)
            clear b7 hb6 o6
            go_wp2_with fail
            (with_reducible refine (awake_any _).mono ?_)
            rintro e wz ⟨rfl, bz⟩
            have hb9 := hb7.trans (bz.mono hb7.size)
            go_wp2_with fail
            go_ret
            exact ⟨rfl, hb9⟩

set_option maxRecDepth 100000 in
set_option maxHeartbeats 32000000 in
theorem liftSquares_4 (a : Int) (ha1 : -1000000 ≤ a) (ha2 : a ≤ 1000000) (P K : Nat) (hP : isP P) (hK : 1 ≤ K) (hq : pn P K ≤ 20000) (hm : 2 < P) (ha : a % P ≠ 0) (hl : (rootsL (sq a) (pn P K)).length = 2) (hl2 : (rootsL (sq a) (pn P 1)).length = 2) (v : Value) (f : List Int) (w : World) (hv : Ints w v f) :
    Calls Try.prog 3 #[.int .i64 a, .int .i64 P, .int .i64 K, v] w fun e w' => e = .returned (.bool true) ∧ Below w.heap.size w w' := by
  have HVF := Lib.hid hv
  have HP := Lib.hid hP
  have HQ := Lib.hid hq
  have h2 := hP.pos
  have h13 := hP.le
  have hK14 := pn_k h2 hq
  have hq0 := pn_pos (show 0 < P by omega) K
  have hqb : (((pn P K : Nat) : Int) == 0) = false := by rw [beq_eq_false_iff_ne]; omega
  have hqb2 : ((pn P K) == 0) = false := by rw [beq_eq_false_iff_ne]; omega
  have HM := Lib.hid (fun i (hi : i ≤ K) => (Nat.le_trans (pn_mono (p := P) (by omega) i K hi) hq : pn P i ≤ 20000))
  have HQ1 := Lib.hid (Nat.le_trans (pn_mono (p := P) (by omega) 1 K hK) hq)
  have m1 : decide ((2 : Int) < P) = true := decide_eq_true (by omega)
  have m2 : decide (2 < P) = true := decide_eq_true (by omega)
  have m3 : (a.tmod P != 0) = true := by rw [bne_iff_ne]; intro h; exact ha (Int.emod_eq_zero_of_dvd (Int.dvd_of_tmod_eq_zero h))
  have m4 : (((rootsL (sq a) (pn P K)).length : Int) != ((rootsL (sq a) (pn P 1)).length : Int)) = false := by rw [bne_eq_false_iff_eq]; omega
  have m5 : ((rootsL (sq a) (pn P K)).length != (rootsL (sq a) (pn P 1)).length) = false := by rw [bne_eq_false_iff_eq]; omega
  have m6 : (((rootsL (sq a) (pn P K)).length : Int) != 0) = true := by rw [bne_iff_ne]; omega
  have m7 : ((rootsL (sq a) (pn P K)).length != 0) = true := by rw [bne_iff_ne]; omega
  have m8 : (((rootsL (sq a) (pn P K)).length : Int) != 2) = false := by rw [bne_eq_false_iff_eq]; omega
  have m9 : ((rootsL (sq a) (pn P K)).length != 2) = false := by rw [bne_eq_false_iff_eq]; omega
  have HMEM := Lib.hid (fun i (hi : i < (rootsL (sq a) (pn P K)).length) => rootsL_at (sq a) (pn P K) i hi)
  have HOTH := Lib.hid (fun x (hx : x ∈ rootsL (sq a) (pn P K)) => sq_other a x (pn P K) hq0 hx)
  have HBD := Lib.hid (fun x (hx : x ∈ rootsL (sq a) (pn P K)) => mem_rootsL.1 hx)
  have hlen1 := rootsL_le (sq a) (pn P K)
  have hlen2 := rootsL_le (sq a) (pn P 1)
  obtain ⟨_, Af, cf, rfl, _, _⟩ := hv
  clear hP hm ha hl hl2
  have hm2 := HQ1.out
  go_enter Try.func3, Try.ntmps3
  go_wp2_with fail
  refine (Square_yes a ha1 ha2 P K HP.out hK HQ.out _).mono ?_
  rintro e w1 ⟨v1, rfl, o1, b1⟩
  have O1 := Lib.hid o1
  have I1 := Lib.hid (o1.ints (by omega))
  obtain ⟨_, A1, c1, rfl, _, hcr1⟩ := I1.out
  have HCR1 := Lib.hid hcr1
  clear o1 hcr1
  go_wp2_with fail
  refine (rPower_yes P K HP.out hK HQ.out _).mono ?_
  rintro e _ ⟨rfl, rfl⟩
  go_wp2_with fail
  clear hqb hqb2
  go_loop [11, 41] (fun o i => ∃ k : Nat, k ≤ K ∧ i = .int .i64 k ∧ o = .int .i64 (pn P k : Nat)) (fun _ i => K - (intOf i).toNat)
  case atStart => exact ⟨0, by omega, rfl, rfl⟩
  case round =>
    obtain ⟨k, hk, rfl, rfl⟩ := hrel
    by_cases hlt : k < K
    · have hb1 := HM.out (k + 1) hlt
      have hb0 := HM.out k (by omega)
      have HE := Lib.hid (show ((pn P k : Nat) : Int) * (P : Int) = (pn P (k + 1) : Nat) by rw [pn]; simp)
      have hpb := prod_bd hb0 h13
      have hpb1 := hpb.1
      have hpb2 := hpb.2
      clear hpb
      generalize pn P k = a at *
      go_wp2_with fail
      go_round
      case rel => exact ⟨k + 1, by omega, by go_num, by rw [HE.out]⟩
      case measure => simp [intOf]; omega
    · obtain rfl : k = K := by omega
      go_wp2_with fail
      go_loop [49] (fun i => ∃ m : Nat, m ≤ (rootsL (sq a) (pn P k)).length ∧ i = .int .i64 m) (fun i => (rootsL (sq a) (pn P k)).length - (intOf i).toNat)
      case atStart => exact ⟨0, by omega, rfl⟩
      case round =>
        obtain ⟨m, hm5, rfl⟩ := hrel
        by_cases hlt : m < (rootsL (sq a) (pn P k)).length
        · obtain ⟨ad, hA1, _, hcell⟩ := HCR1.out (by omega)
          subst hA1
          have hcx := hcell m _ (getD_get _ m hlt)
          have HMM := Lib.hid (HMEM.out m hlt)
          have HO := Lib.hid (show (rootsL (sq a) (pn P k)).contains (-((rootsL (sq a) (pn P k)).getD m 0) % ((pn P k : Nat) : Int)) = true from by
            have := mem_contains (HOTH.out _ HMM.out)
            rwa [show (((pn P k : Nat) : Int) - (rootsL (sq a) (pn P k)).getD m 0) % ((pn P k : Nat) : Int) = -((rootsL (sq a) (pn P k)).getD m 0) % ((pn P k : Nat) : Int) from by simp] at this)
          obtain ⟨hx0, hx1, hx2⟩ := HBD.out _ HMM.out
          have hz1 := (sq_tmod _ _ _).2 hx2
          have hz : ((((rootsL (sq a) (pn P k)).getD m 0) * ((rootsL (sq a) (pn P k)).getD m 0) - a).tmod ((pn P k : Nat) : Int) != 0) = false := by rw [bne_eq_false_iff_eq]; exact hz1
          have hpx := prod_le hx0 (show _ ≤ (20000 : Int) by omega) hx0 (show _ ≤ (20000 : Int) by omega)
          have hpx1 := hpx.1
          have hpx2 := hpx.2
          have dx1 : decide ((rootsL (sq a) (pn P k)).getD m 0 < 0) = false := decide_eq_false (by omega)
          have dx2 : decide (((pn P k : Nat) : Int) ≤ (rootsL (sq a) (pn P k)).getD m 0) = false := decide_eq_false (by omega)
          clear hcell hx2 hz1 hpx
          generalize (rootsL (sq a) (pn P k)).getD m 0 = x at *
          go_wp2_with fail
          refine (contains_own _ _ _ _ _ O1.out).mono ?_
          rintro e _ ⟨rfl, rfl⟩
          rw [HO.out]
          go_wp2_with fail
          go_round
          case rel => exact ⟨m + 1, by omega, by go_num⟩
          case measure => simp [intOf]; omega
        · obtain rfl : m = (rootsL (sq a) (pn P k)).length := by omega
          go_wp2_with fail
          refine (Square_yes a ha1 ha2 P 1 HP.out (by omega) HQ1.out _).mono ?_
          rintro e w2 ⟨v2, rfl, o2, b2⟩
          have I2 := Lib.hid (o2.ints (by omega))
          obtain ⟨_, A2, c2, rfl, _, _⟩ := I2.out
          have hb := b1.trans (b2.mono b1.size)
          clear o2 b2
          go_wp2_with fail
          refine (list_any _ f _ (HVF.out.keep hb)).mono ?_
          rintro e w4 ⟨v4, rfl, o4, b4⟩
          have hb4 := hb.trans (b4.mono hb.size)
          clear b4 hb
          go_wp2_with fail
          clear m1 m2 m3 m4 m5 m6 m7 m8 m9
          by_cases hpf : Poly f
          · have HPT := Lib.hid (Poly.take.2 hpf)
            have HPF := Lib.hid hpf
            clear hpf
            refine (Roots_yes _ _ (f.take 9) P k HP.out hK HQ.out HPT.out _ o4).mono ?_
            rintro e w5 ⟨v5, rfl, o5, b5⟩
            have O5 := Lib.hid o5
            have hb5 := hb4.trans (b5.mono hb4.size)
            clear b5 hb4 o4 o5
            go_wp2_with fail
            refine (list_any _ f _ (HVF.out.keep hb5)).mono ?_
            rintro e w6 ⟨v6, rfl, o6, b6⟩
            have O5b := Lib.hid (O5.out.same (fun b _ hlt => b6.block b hlt))
            have hb6 := hb5.trans (b6.mono hb5.size)
            clear b6 hb5
            obtain ⟨K2, hK2⟩ : ∃ K2 : Nat, max ((k : Int) - 1) 1 = K2 := ⟨max (k - 1) 1, by omega⟩
            have hK21 : 1 ≤ K2 := by omega
            have HQ2 := Lib.hid (Nat.le_trans (pn_mono (p := P) (by omega) K2 k (by omega)) HQ.out)
            have HK2 := Lib.hid (show 1 < k → K2 = k - 1 from fun _ => by omega)
            have hK2k : K2 ≤ k := by omega
            go_wp2_with fail
            clear hK2
            refine (Roots_yes _ _ (f.take 9) P K2 HP.out hK21 HQ2.out HPT.out _ o6).mono ?_
            rintro e w7 ⟨v7, rfl, o7, b7⟩
            have O7 := Lib.hid o7
            have O5c := Lib.hid (O5b.out.same (fun b _ hlt => b7.block b hlt))
            have hb7 := hb6.trans (b7.mono hb6.size)
            have I5 := Lib.hid (O5c.out.ints (by have := rootsL_le (f.take 9) (pn P k); have := HQ.out; omega))
            clear b7 hb6 o6 o7
            obtain ⟨_, A5, c5, rfl, _, hcr5⟩ := I5.out
            have HCR5 := Lib.hid hcr5
            clear hcr5
            have HMEM := Lib.hid (fun i (hi : i < (rootsL (f.take 9) (pn P k)).length) => rootsL_at (f.take 9) (pn P k) i hi)
            have HDOWN := Lib.hid (fun x (hx : x ∈ rootsL (f.take 9) (pn P k)) => roots_down (f.take 9) P K2 k (by omega) (by omega) x hx)
            have HNON := Lib.hid (fun x (hx : x ∈ rootsL (f.take 9) (pn P k)) => (mem_rootsL.1 hx).1)
            have hlen5 := rootsL_le (f.take 9) (pn P k)
            generalize rootsL (f.take 9) (pn P k) = L5 at *
            go_wp2_with fail
            go_loop [151] (fun i => ∃ m : Nat, m ≤ L5.length ∧ i = .int .i64 m) (fun i => L5.length - (intOf i).toNat)
            case atStart => exact ⟨0, by omega, rfl⟩
            case round =>
              obtain ⟨m, hm5, rfl⟩ := hrel
              by_cases hlt : m < L5.length
              · obtain ⟨ad, rfl, _, hcell⟩ := HCR5.out (by omega)
                have hcx := hcell m _ (getD_get L5 m hlt)
                have hx0 := HNON.out _ (HMEM.out m hlt)
                have HD := Lib.hid (mem_contains (HDOWN.out _ (HMEM.out m hlt)))
                generalize L5.getD m 0 = x at *
                clear hcell
                by_cases hk1 : 1 < k
                · have hk1a : decide ((1 : Int) < k) = true := decide_eq_true (by omega)
                  have hk1b : decide (1 < k) = true := decide_eq_true hk1
                  have hK2e := HK2.out hk1
                  have HPNK := Lib.hid (show pn P k = pn P K2 * P by
                    have e : pn P (k - 1 + 1) = pn P (k - 1) * P := rfl
                    rw [show k - 1 + 1 = k by omega] at e
                    rw [hK2e]; exact e)
                  have HDV := Lib.hid (show ((pn P k : Nat) : Int) / (P : Int) = (pn P K2 : Nat) by
                    rw [HPNK.out, Int.natCast_mul]
                    exact Int.mul_ediv_cancel _ (by omega))
                  have hpn2 := pn_pos (show 0 < P by omega) K2
                  have hpn3 := HQ2.out
                  have hdv1 := HDV.out
                  have hdv2 : ((pn P k : Nat) : Int).tdiv (P : Int) = (pn P K2 : Nat) := by rw [← HDV.out]; exact Int.tdiv_eq_ediv_of_nonneg (by omega)
                  have hdv3 : (((pn P K2 : Nat) : Int) == 0) = false := by rw [beq_eq_false_iff_ne]; omega
                  have hdv4 : (pn P K2 == 0) = false := by rw [beq_eq_false_iff_ne]; omega
                  clear hK2e
                  go_wp2_with fail
                  refine (contains_own _ _ _ _ _ O7.out).mono ?_
                  rintro e _ ⟨rfl, rfl⟩
                  clear hdv1 hdv2 hdv3 hdv4
                  rw [HD.out]
                  go_wp2_with fail
                  go_round
                  case rel => exact ⟨m + 1, by omega, by go_num⟩
                  case measure => simp [intOf]; omega
                · have hk1a : decide ((1 : Int) < k) = false := decide_eq_false (by omega)
                  have hk1b : decide (1 < k) = false := decide_eq_false hk1
                  go_wp2_with fail
                  go_round
                  case rel => exact ⟨m + 1, by omega, by go_num⟩
                  case measure => simp [intOf]; omega
              · obtain rfl : m = L5.length := by omega
                go_wp2_with fail
                (with_reducible refine (awake_any _).mono ?_)
                rintro e wz ⟨rfl, bz⟩
                have hb9 := hb7.trans (bz.mono hb7.size)
                go_wp2_with fail
                go_ret
                exact ⟨rfl, hb9⟩
          · have HPF := Lib.hid hpf
            clear hpf
            refine (Roots_no _ _ (f.take 9) P k (fun hh => HPF.out (Poly.take.1 hh.2)) _ o4).mono ?_
            rintro e w5 ⟨rfl, b5⟩
            have hb5 := hb4.trans (b5.mono hb4.size)
            clear b5 hb4 o4
            go_wp2_with fail
            refine (list_any _ f _ (HVF.out.keep hb5)).mono ?_
            rintro e w6 ⟨v6, rfl, o6, b6⟩
            have hb6 := hb5.trans (b6.mono hb5.size)
            clear b6 hb5
            go_wp2_with fail
            refine (Roots_no _ _ (f.take 9) P _ (fun hh => HPF.out (Poly.take.1 hh.2)) _ o6).mono ?_
            rintro e w7 ⟨rfl, b7⟩
            have hb7 := hb6.trans (b7.mono hb6.size)
            clear b7 hb6 o6
            go_wp2_with fail
            (with_reducible refine (awake_any _).mono ?_)
            rintro e wz ⟨rfl, bz⟩
            have hb9 := hb7.trans (bz.mono hb7.size)
            go_wp2_with fail
            go_ret
            exact ⟨rfl, hb9⟩

/-- The walk of LiftSquares. -/
theorem liftSquares_walk (w : World) (a : Int) (_ : -9223372036854775808 ≤ a ∧ a ≤ 9223372036854775807) (p : Int) (_ : -9223372036854775808 ≤ p ∧ p ≤ 9223372036854775807) (k : Int) (_ : -9223372036854775808 ≤ k ∧ k ≤ 9223372036854775807) (v : Value) (f : List Int) (hv : Ints w v f) (_ : ∀ n ∈ f, -9223372036854775808 ≤ n ∧ n ≤ 9223372036854775807) :
    Calls Try.prog 3 #[.int .i64 a, .int .i64 p, .int .i64 k, v] w fun e w' => e = .returned (.bool true) ∧ Below w.heap.size w w' := by
  by_cases h : PK p k ∧ -1000000 ≤ a ∧ a ≤ 1000000
  · obtain ⟨⟨P, K, rfl, rfl, hP, hK, hq⟩, h1, h2⟩ := h
    have hP2 := hP.pos
    by_cases g : P = 2
    · exact liftSquares_1 a h1 h2 P K hP hK hq g v f w hv
    · by_cases g2 : a % (P : Int) = 0
      · exact liftSquares_2 a h1 h2 P K hP hK hq (by omega) g2 v f w hv
      · obtain ⟨e1, e2⟩ := sq_roots hP (by omega) a g2 (K - 1)
        rw [show K - 1 + 1 = K by omega] at e1 e2
        rcases e2 with e2 | e2
        · exact liftSquares_3 a h1 h2 P K hP hK hq (by omega) g2 e2 (by rw [pn_one]; omega) v f w hv
        · exact liftSquares_4 a h1 h2 P K hP hK hq (by omega) g2 e2 (by rw [pn_one]; omega) v f w hv
  · exact liftSquares_bad a p k v h w
end Go.Proofs.Ytdkobkghhnccgaa
