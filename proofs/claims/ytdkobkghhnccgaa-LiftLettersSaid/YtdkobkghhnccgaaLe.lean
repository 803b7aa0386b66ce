/- The walk of LiftLetters. -/
import Derived.Test.YtdkobkghhnccgaaJ
namespace Go.Proofs.Ytdkobkghhnccgaa
open Go.RowKit
theorem Teich_int (ri : Int) (P K r : Nat) (hri : ri = r) (hP : isP P) (hK : 1 ≤ K) (hq : pn P K ≤ 20000) (hr : r < P) (w : World) :
    Calls Try.prog 21 #[.int .i64 ri, .int .i64 P, .int .i64 K] w fun e w' => e = .returned (.tuple #[.int .i64 (teich P K r : Nat), .int .i64 0]) ∧ Below w.heap.size w w' := by
  subst hri
  exact Teich_yes P K r hP hK hq hr w
set_option maxRecDepth 100000 in
set_option maxHeartbeats 16000000 in
theorem liftLetters_bad (r s p k : Int) (h : ¬ (PK p k ∧ (0 ≤ r ∧ r < p) ∧ (0 ≤ s ∧ s < p))) (w : World) :
    Calls Try.prog 4 #[.int .i64 r, .int .i64 s, .int .i64 p, .int .i64 k] w fun e w' => e = .returned (.bool true) ∧ Below w.heap.size w w' := by
  by_cases hp : PK p k
  · have HPK := Lib.hid hp
    obtain ⟨P, K, rfl, rfl, hP, hK, hq⟩ := hp
    have HP := Lib.hid hP
    have HQ := Lib.hid hq
    by_cases hr : 0 ≤ r ∧ r < P
    · have HS := Lib.hid (show ¬ (0 ≤ s ∧ s < P) from fun hs => h ⟨HPK.out, hr, hs⟩)
      obtain ⟨R, rfl⟩ := Int.eq_ofNat_of_zero_le hr.1
      have hr2 : R < P := by omega
      clear h hP hq hr
      go_enter Try.func4, Try.ntmps4
      go_wp2_with fail
      refine (Teich_yes P K R HP.out hK HQ.out hr2 _).mono ?_
      rintro e w1 ⟨rfl, b1⟩
      go_wp2_with fail
      refine (Teich_no s P K (fun hh => HS.out hh.2) _).mono ?_
      rintro e w2 ⟨rfl, b2⟩
      have hb := b1.trans (b2.mono b1.size)
      clear b1 b2
      go_wp2_with fail
      (with_reducible refine (awake_any _).mono ?_)
      rintro e wz ⟨rfl, bz⟩
      have hb9 := hb.trans (bz.mono hb.size)
      go_wp2_with fail
      go_ret
      exact ⟨rfl, hb9⟩
    · have HR := Lib.hid hr
      by_cases hs : 0 ≤ s ∧ s < P
      · obtain ⟨R, rfl⟩ := Int.eq_ofNat_of_zero_le hs.1
        have hr2 : R < P := by omega
        clear h hP hq hr hs
        go_enter Try.func4, Try.ntmps4
        go_wp2_with fail
        refine (Teich_no r P K (fun hh => HR.out hh.2) _).mono ?_
        rintro e w1 ⟨rfl, b1⟩
        go_wp2_with fail
        refine (Teich_yes P K R HP.out hK HQ.out hr2 _).mono ?_
        rintro e w2 ⟨rfl, b2⟩
        have hb := b1.trans (b2.mono b1.size)
        clear b1 b2
        go_wp2_with fail
        (with_reducible refine (awake_any _).mono ?_)
        rintro e wz ⟨rfl, bz⟩
        have hb9 := hb.trans (bz.mono hb.size)
        go_wp2_with fail
        go_ret
        exact ⟨rfl, hb9⟩
      · have HS := Lib.hid hs
        clear h hP hq hr hs
        go_enter Try.func4, Try.ntmps4
        go_wp2_with fail
        refine (Teich_no r P K (fun hh => HR.out hh.2) _).mono ?_
        rintro e w1 ⟨rfl, b1⟩
        go_wp2_with fail
        refine (Teich_no s P K (fun hh => HS.out hh.2) _).mono ?_
        rintro e w2 ⟨rfl, b2⟩
        have hb := b1.trans (b2.mono b1.size)
        clear b1 b2
        go_wp2_with fail
        (with_reducible refine (awake_any _).mono ?_)
        rintro e wz ⟨rfl, bz⟩
        have hb9 := hb.trans (bz.mono hb.size)
        go_wp2_with fail
        go_ret
        exact ⟨rfl, hb9⟩
  · have HP := Lib.hid hp
    clear h hp
    go_enter Try.func4, Try.ntmps4
    go_wp2_with fail
    refine (Teich_no r p k (fun hh => HP.out hh.1) _).mono ?_
    rintro e w1 ⟨rfl, b1⟩
    go_wp2_with fail
    refine (Teich_no s p k (fun hh => HP.out hh.1) _).mono ?_
    rintro e w2 ⟨rfl, b2⟩
    have hb := b1.trans (b2.mono b1.size)
    clear b1 b2
    go_wp2_with fail
    (with_reducible refine (awake_any _).mono ?_)
    rintro e wz ⟨rfl, bz⟩
    have hb9 := hb.trans (bz.mono hb.size)
    go_wp2_with fail
    go_ret
    exact ⟨rfl, hb9⟩
set_option maxRecDepth 100000 in
set_option maxHeartbeats 16000000 in
theorem liftLetters_good (R S P K : Nat) (hP : isP P) (hK : 1 ≤ K) (hq : pn P K ≤ 20000) (hr : R < P) (hs : S < P) (w : World) :
    Calls Try.prog 4 #[.int .i64 R, .int .i64 S, .int .i64 P, .int .i64 K] w fun e w' => e = .returned (.bool true) ∧ Below w.heap.size w w' := by
  have HP := Lib.hid hP
  have HQ := Lib.hid hq
  have h2 := hP.pos
  have h13 := hP.le
  have hK14 := pn_k h2 hq
  have hq0 := pn_pos (show 0 < P by omega) K
  have hqb : (((pn P K : Nat) : Int) == 0) = false := by rw [beq_eq_false_iff_ne]; omega
  have hqb2 : ((pn P K) == 0) = false := by rw [beq_eq_false_iff_ne]; omega
  obtain ⟨a1, _, a3, _⟩ := teich_ok hP hK hq R hr
  obtain ⟨b1, _, b3, _⟩ := teich_ok hP hK hq S hs
  obtain ⟨c1, c2, c3⟩ := lett_ok hP hK hq
  have HC := Lib.hid (c1 R S hr hs)
  have H0 := Lib.hid c2
  have H1 := Lib.hid c3
  have HM := Lib.hid (fun i (hi : i ≤ K) => (Nat.le_trans (pn_mono (p := P) (by omega) i K hi) hq : pn P i ≤ 20000))
  have d1 : decide ((R : Int) < 0) = false := decide_eq_false (by omega)
  have d2 : decide ((S : Int) < 0) = false := decide_eq_false (by omega)
  have d3 : decide ((P : Int) ≤ R) = false := decide_eq_false (by omega)
  have d4 : decide ((P : Int) ≤ S) = false := decide_eq_false (by omega)
  have d5 : decide (P ≤ R) = false := decide_eq_false (by omega)
  have d6 : decide (P ≤ S) = false := decide_eq_false (by omega)
  have HA := Lib.hid (show ((teich P K R : Int) % (P : Int) == (R : Int)) = true by rw [beq_iff_eq]; omega)
  have HB := Lib.hid (show ((teich P K S : Int) % (P : Int) == (S : Int)) = true by rw [beq_iff_eq]; omega)
  have HAB := Lib.hid (show ((teich P K R : Int) * (teich P K S : Int) % ((pn P K : Nat) : Int) == (teich P K (R * S % P) : Int)) = true by
    rw [beq_iff_eq, HC.out]; simp)
  have hrs : R * S % P < P := Nat.mod_lt _ (by omega)
  have HRS := Lib.hid (show (R : Int) * (S : Int) % (P : Int) = ((R * S % P : Nat) : Int) by simp)
  have hp := natprod (show R ≤ 13 by omega) (show S ≤ 13 by omega)
  have hp1 := hp.1
  have hp2 := hp.2
  have ht := natprod (show teich P K R ≤ 20000 by omega) (show teich P K S ≤ 20000 by omega)
  have ht1 := ht.1
  have ht2 := ht.2
  clear hP hq a1 b1 c1 c2 c3 hp ht
  go_enter Try.func4, Try.ntmps4
  go_wp2_with fail
  refine (Teich_yes P K R HP.out hK HQ.out hr _).mono ?_
  rintro e w1 ⟨rfl, b1⟩
  go_wp2_with fail
  refine (Teich_yes P K S HP.out hK HQ.out hs _).mono ?_
  rintro e w2 ⟨rfl, b2⟩
  have hb := b1.trans (b2.mono b1.size)
  clear b1 b2
  go_wp2_with fail
  refine (rPower_yes P K HP.out hK HQ.out _).mono ?_
  rintro e _ ⟨rfl, rfl⟩
  go_wp2_with fail
  refine (Teich_int _ P K (R * S % P) HRS.out HP.out hK HQ.out hrs _).mono ?_
  rintro e w3 ⟨rfl, b3⟩
  have hb3 := hb.trans (b3.mono hb.size)
  clear b3 hb
  go_wp2_with fail
  refine (Teich_int 0 P K 0 rfl HP.out hK HQ.out (by omega) _).mono ?_
  rintro e w4 ⟨rfl, b4⟩
  rw [H0.out]
  have hb4 := hb3.trans (b4.mono hb3.size)
  clear b4 hb3
  go_wp2_with fail
  refine (Teich_int 1 P K 1 rfl HP.out hK HQ.out (by omega) _).mono ?_
  rintro e w5 ⟨rfl, b5⟩
  rw [H1.out]
  have hb := hb4.trans (b5.mono hb4.size)
  clear b5 hb4 d1 d2 d3 d4 d5 d6
  generalize teich P K (R * S % P) = cc at *
  generalize teich P K R = aa at *
  generalize teich P K S = bb at *
  go_wp2_with fail
  go_loop [19, 97] (fun o i => ∃ k : Nat, k ≤ K ∧ i = .int .i64 k ∧ o = .int .i64 (pn P k : Nat)) (fun _ i => K - (intOf i).toNat)
  case atStart => exact ⟨0, by omega, rfl, rfl⟩
  case round =>
    obtain ⟨k, hk, rfl, rfl⟩ := hrel
    by_cases hlt : k < K
    · have hb1 := HM.out (k + 1) hlt
      have hb0 := HM.out k (by omega)
      have HE := Lib.hid (show ((pn P k : Nat) : Int) * (P : Int) = (pn P (k + 1) : Nat) by rw [pn]; simp)
      have hpb := prod_bd hb0 h13
      have hpb1 := hpb.1
      have hpb2 := hpb.2
      clear hpb hqb hqb2
      generalize pn P k = a at *
      go_wp2_with fail
      go_round
      case rel => exact ⟨k + 1, by omega, by go_num, by rw [HE.out]⟩
      case measure => simp [intOf]; omega
    · obtain rfl : k = K := by omega
      have ha := HA.out
      have hbb := HB.out
      have hab := HAB.out
      go_wp2_with fail
      (with_reducible refine (awake_any _).mono ?_)
      rintro e wz ⟨rfl, bz⟩
      have hb9 := hb.trans (bz.mono hb.size)
      go_wp2_with fail
      go_ret
      exact ⟨rfl, hb9⟩
/-- The walk of LiftLetters. -/
theorem liftLetters_walk (w : World) (r : Int) (_ : -9223372036854775808 ≤ r ∧ r ≤ 9223372036854775807) (s : Int) (_ : -9223372036854775808 ≤ s ∧ s ≤ 9223372036854775807) (p : Int) (_ : -9223372036854775808 ≤ p ∧ p ≤ 9223372036854775807) (k : Int) (_ : -9223372036854775808 ≤ k ∧ k ≤ 9223372036854775807) :
    Calls Try.prog 4 #[.int .i64 r, .int .i64 s, .int .i64 p, .int .i64 k] w fun e w' => e = .returned (.bool true) ∧ Below w.heap.size w w' := by
  by_cases h : PK p k ∧ (0 ≤ r ∧ r < p) ∧ (0 ≤ s ∧ s < p)
  · obtain ⟨⟨P, K, rfl, rfl, hP, hK, hq⟩, ⟨hr0, hr1⟩, hs0, hs1⟩ := h
    obtain ⟨R, rfl⟩ := Int.eq_ofNat_of_zero_le hr0
    obtain ⟨S, rfl⟩ := Int.eq_ofNat_of_zero_le hs0
    exact liftLetters_good R S P K hP hK hq (by omega) (by omega) w
  · exact liftLetters_bad r s p k h w
end Go.Proofs.Ytdkobkghhnccgaa
