/- The walk of LiftPlaces, mode c. -/
import Derived.Test.YtdkobkghhnccgaaPl
namespace Go.Proofs.Ytdkobkghhnccgaa
open Go.RowKit
set_option maxRecDepth 100000 in
set_option maxHeartbeats 32000000 in
theorem liftPlaces_else (a b : Int) (P : Nat) (h : FracI a b P) (hf : Frc a b P) (hn1 : ¬ (b = 1 ∧ 0 ≤ a)) (he : a ≠ -b) (w : World) :
    Calls Try.prog 10 #[.int .i64 a, .int .i64 b, .int .i64 P] w fun e w' => e = .returned (.bool true) ∧ Below w.heap.size w w' := by
  have HI := Lib.hid h
  have HF := Lib.hid hf
  obtain ⟨s, N, hr⟩ := rep_ex hf
  have HR := Lib.hid hr
  have hN := rep_n hf.hP a b hf.hb hf.b0 hf.b1 hf.a0 hf.a1 N hr.2.2
  have hsN := hr.1
  obtain ⟨T, hT⟩ : ∃ T : Nat, T = N - s := ⟨_, rfl⟩
  have HT := Lib.hid (show (N : Int) - s = (T : Int) by omega)
  have HTN := Lib.hid hT
  have hT1 : 1 ≤ T := by omega
  have hT2 : T ≤ 1000 := by rw [hT]; exact rep_len hf.hP a b hf.hb hf.b0 hf.b1 s N hr
  have h2 := hf.hP.pos
  have h13 := hf.hP.le
  have hb0 := hf.b0
  have hbb1 := hf.b1
  have ha0 := hf.a0
  have ha1 := hf.a1
  obtain ⟨M, hM1, hM2, hM3⟩ := ord_int hf.hP hf.b0 hf.hb
  have HM3 := Lib.hid hM3
  have e0 : (a == -b) = false := by rw [beq_eq_false_iff_ne]; exact he
  have HN1 := Lib.hid hn1
  clear h hf hr hT hM3 he hn1
  go_enter Try.func10, Try.ntmps10
  go_wp2_with fail
  with_reducible refine (Digits_40 a b P HF.out HI.out _).mono ?_
  rintro e w1 ⟨v1, rfl, o1, hb1⟩
  have I1 := Lib.hid (o1.ints (by rw [dl_length]; omega))
  clear o1
  go_wp2_with fail
  with_reducible refine (Again_yes a b P s N HF.out HI.out HR.out _).mono ?_
  rintro e w2 ⟨rfl, b2⟩
  rw [HT.out]
  have hb2 := hb1.trans (b2.mono hb1.size)
  have I2 := Lib.hid (I1.out.keep b2)
  clear b2
  obtain ⟨_, A1, c1, rfl, _, hcr1⟩ := I2.out
  rw [dl_length] at hcr1 ⊢
  obtain ⟨ad, rfl, hbl, hcell⟩ := hcr1 (by omega)
  have HC := Lib.hid (fun W (hb : Below w2.heap.size w2 W) k (hk : k < 40) => (hb.cell (p := ad.add k) (by rw [addr_block]; exact hbl)).trans (hcell k _ (by have := getD_get (dl a b P 40) k (by rw [dl_length]; exact hk); rw [dl_get a b P 40 k hk] at this; exact this)))
  clear hcr1 hcell
  go_wp2_with fail
  refine (rFraction_any a b P true (by simp; exact HI.out) _).mono ?_
  rintro e _ ⟨rfl, rfl⟩
  go_wp2_with fail
  go_loop [12, 54] (fun x i => ∃ k : Nat, k ≤ 40 ∧ i = .int .i64 k ∧ x = .int .i64 (rs a b P k)) (fun _ i => 40 - (intOf i).toNat)
  case atStart => exact ⟨0, by omega, rfl, rfl⟩
  case round =>
    obtain ⟨k, hk, rfl, rfl⟩ := hrel
    by_cases hlt : k < 40
    · have hcx := HC.out w2 (Below.refl _ _) k hlt
      have hfk := HF.out.rs k
      have hx0 := hfk.a0
      have hx1 := hfk.a1
      have hdl := hfk.dgl
      have hd1 := hdl.1
      have hd2 := hdl.2
      have hz := dig_zero2.2 (dg_spec hfk.hP (rs a b P k) b hfk.hb).2.1
      rw [Int.mul_comm] at hz
      have hzb : ((rs a b P k - b * (dg (rs a b P k) b P : Int)).tmod P != 0) = false := by rw [bne_eq_false_iff_eq]; exact hz
      have htd := nx_tdiv hfk
      rw [Int.mul_comm] at htd
      have hm := mul_d (d := dg (rs a b P k) b P) hb0 hbb1 (by omega)
      have hm1 := hm.1
      have hm2 := hm.2
      have hnn := (hfk.next)
      have hn1 := hnn.a0
      have hn2 := hnn.a1
      have HRS := Lib.hid (show rs a b P (k + 1) = nx (rs a b P k) b P from rfl)
      have dd : decide ((P : Int) ≤ (dg (rs a b P k) b P : Int)) = false := decide_eq_false (by omega)
      have dd2 : decide (P ≤ dg (rs a b P k) b P) = false := decide_eq_false (by omega)
      clear hfk hdl hz hm hnn
      have HR2 := Lib.hid (fun j (h : j = k + 1) => show rs a b P j = rs a b P (k + 1) by rw [h])
      rw [← HRS.out] at htd hn1 hn2
      clear HRS
      generalize rs a b P (k + 1) = y at *
      generalize dg (rs a b P k) b P = d at *
      generalize rs a b P k = x at *
      go_wp2_with fail
      go_round
      case rel => exact ⟨k + 1, by omega, by go_num, by rw [HR2.out (k + 1) rfl]⟩
      case measure => simp [intOf]; omega
    · obtain rfl : k = 40 := by omega
      go_wp2_with fail
      go_loopw [15] (fun i wr => ∃ m : Nat, s ≤ m ∧ i = .int .i64 m ∧ (m ≤ s ∨ m ≤ 40) ∧ Below w2.heap.size w2 wr) (fun i _ => 40 - (intOf i).toNat)
      case atStart => exact ⟨s, Nat.le_refl _, rfl, .inl (Nat.le_refl _), Below.refl _ _⟩
      case round =>
        obtain ⟨m, hm, rfl, hm4, hbm⟩ := hrel
        by_cases hlt : m + T < 40
        · have hcx := HC.out wr hbm m (by omega)
          have hcy := HC.out wr hbm (m + T) hlt
          have HEQ := Lib.hid (show rs a b P (m + T) = rs a b P m by rw [HTN.out]; exact rep_shift a b P s N HR.out m hm)
          rw [HEQ.out] at hcy
          have w1' : IntKind.i64.wrap ((m : Int) + T) = (m : Int) + T := IntWalk.i64_in _ (by omega)
          have w2' : ((m : Int) + T).toNat = m + T := by omega
          have w3' : 0 ≤ (m : Int) + T := by omega
          have w4' : (m : Int) + T < 40 := by omega
          have w5' : (m : Int) < 40 := by omega
          have w0' : (0 : Int) ≤ m := by omega
          have w6' : decide ((m : Int) + T < 40) = true := decide_eq_true w4'
          have w7' : decide (m + T < 40) = true := decide_eq_true hlt
          generalize dg (rs a b P m) b P = d at *
          go_wp2_with fail
          go_quiet (fail)
          go_wp2_with fail
          go_roundw
          case rel => exact ⟨m + 1, by omega, by go_num, by omega, below_drewN hbm _⟩
          case measure => simp [intOf]; omega
        · have w6' : decide ((m : Int) + T < 40) = false := decide_eq_false (by omega)
          have w7' : decide (m + T < 40) = false := decide_eq_false hlt
          go_wp2_with fail
          go_quiet (fail)
          have hbk := hb2.trans ((below_drewN hbm nq).mono hb2.size)
          have HBQ := Lib.hid (below_drewN hbm nq)
          clear w6' w7' hb1 hb2
          go_wp2_with fail
          go_loop [16, 17] (fun q x => ∃ j : Nat, 1 ≤ j ∧ j ≤ M ∧ q = .int .i64 j ∧ x = .int .i64 (((pn P j : Nat) : Int) % b)) (fun q _ => M + 1 - (intOf q).toNat)
          case atStart => exact ⟨1, by omega, hM1, rfl, by rw [pn_one]⟩
          case round =>
            obtain ⟨j, hj1, hj2, rfl, rfl⟩ := hrel
            have HPM := Lib.hid (pn_mod P j b)
            have HRP := Lib.hid (fun h => rep_power HF.out.hP a b HF.out.hb hb0 s N HR.out j h)
            have HJM := Lib.hid (show j = M → ((pn P j : Nat) : Int) % b = 1 % b from fun e => by rw [e]; exact HM3.out)
            have hx0 := Int.emod_nonneg ((pn P j : Nat) : Int) (show b ≠ 0 by omega)
            have hx1 := Int.emod_lt_of_pos ((pn P j : Nat) : Int) (show 0 < b by omega)
            generalize ((pn P j : Nat) : Int) % b = x at *
            have hp := prod_le hx0 (show x ≤ 1000 by omega) (show (0 : Int) ≤ P by omega) (show (P : Int) ≤ 13 by omega)
            have hp1 := hp.1
            have hp2 := hp.2
            clear hp
            by_cases he : x = 1 % b
            · have hee : (x != 1 % b) = false := by rw [bne_eq_false_iff_eq]; exact he
              have HJT := Lib.hid (HRP.out he)
              have hjt : ((j : Int) % (T : Int) != 0) = false := by
                rw [bne_eq_false_iff_eq]
                have := HJT.out
                rw [← HTN.out] at this
                omega
              clear he
              have hc39 := HC.out _ HBQ.out 39 (by omega)
              have hc0 := HC.out _ HBQ.out 0 (by omega)
              have hc0' : (wr.drewN nq).cell? ad = some (.int .i64 ((dg (rs a b P 0) b P : Nat) : Int)) := hc0
              by_cases hb1 : b = 1
              · have e6 : (b == 1) = true := by rw [beq_iff_eq]; exact hb1
                have e1 : decide (0 ≤ a) = false := decide_eq_false (fun h => HN1.out ⟨hb1, h⟩)
                clear hb1
                go_wp2_with fail
                (with_reducible refine (awake_any _).mono ?_)
                rintro e wz ⟨rfl, bz⟩
                have hb9 := hbk.trans (bz.mono hbk.size)
                go_wp2_with fail
                go_ret
                exact ⟨rfl, hb9⟩
              have e6 : (b == 1) = false := by rw [beq_eq_false_iff_ne]; exact hb1
              clear hb1
              go_wp2_with fail
              (with_reducible refine (awake_any _).mono ?_)
              rintro e wz ⟨rfl, bz⟩
              have hb9 := hbk.trans (bz.mono hbk.size)
              go_wp2_with fail
              go_ret
              exact ⟨rfl, hb9⟩
            · have hee : (x != 1 % b) = true := by rw [bne_iff_ne]; exact he
              have hjm : j ≠ M := fun e => he (HJM.out e)
              clear he
              go_wp2_with fail
              go_round
              case rel => exact ⟨j + 1, by omega, by omega, by go_num, by rw [← HPM.out]⟩
              case measure => simp [intOf]; omega
end Go.Proofs.Ytdkobkghhnccgaa
