/- Walk of the law PartsHalved. -/
import Derived.Test.YtpgpkgnljoedaaaHm
namespace Go.Proofs.Ytpgpkgnljoedaaa
open Go.RowKit
set_option maxRecDepth 100000 in
set_option maxHeartbeats 4000000 in
theorem halved_none1 (v : Value) (l : List Int) (hp : ¬ Part l) (n : Nat) (hn : n ≤ 100) (w : World) (hv : Ints w v l) :
    Calls Try.prog 14 #[v, .int .i64 n] w fun e w' => e = .returned (.bool true) ∧ Below w.heap.size w w' := by
  have HV := Lib.hid hv
  have HB0 := Lib.hid (Below.refl w.heap.size w)
  have HPA := Lib.hid hp
  obtain ⟨q, hq⟩ : ∃ q, q = l.take 34 := ⟨_, rfl⟩
  have HPT := Lib.hid (show ¬ Part q by rw [hq]; exact part_take hp)
  have hql : q.length ≤ 34 := by rw [hq, List.length_take]; omega
  have HQ := Lib.hid hq
  clear hp hq
  have HK1 := Lib.hid (fun (t : Nat) (ht : t < 3) W => show Calls Try.prog 30 #[.int .i64 n, .int .i64 (2 * (t : Int))] W (fun e w' => e = .returned (.tuple #[.int .i64 (kv n (2 * t) : Nat), .int .i64 0]) ∧ Below W.heap.size W w') from by have h := Kinds_any n (2 * t) hn (by omega) W; rwa [show ((2 * t : Nat) : Int) = 2 * (t : Int) by omega] at h)
  have HK2 := Lib.hid (fun (t : Nat) (ht : t < 3) W => show Calls Try.prog 30 #[.int .i64 n, .int .i64 (2 * (t : Int) + 1)] W (fun e w' => e = .returned (.tuple #[.int .i64 (kv n (2 * t) : Nat), .int .i64 0]) ∧ Below W.heap.size W w') from by have h := Kinds_any n (2 * t + 1) hn (by omega) W; rwa [show ((2 * t + 1 : Nat) : Int) = 2 * (t : Int) + 1 by omega, ← kv_two n t ht] at h)
  obtain ⟨A, c, hvv⟩ : ∃ A c, v = .slice A l.length c := by obtain ⟨_, A, c, h, _⟩ := hv; exact ⟨A, c, h⟩
  subst hvv
  clear hv
  go_enter Try.func14, Try.ntmps14
  go_wp2_with fail
  with_reducible refine (list_any _ l _ (HV.out.keep HB0.out)).mono ?_
  rintro e w1 ⟨va, rfl, ho, hb⟩
  have HS1 := Lib.hid hb
  have HB1 := Lib.hid (HB0.out.trans (hb.mono HB0.out.size))
  clear hb
  rw [← HQ.out] at ho
  have HI1 := Lib.hid (ho.ints (by omega))
  obtain ⟨Aa, ca, rfl⟩ := ho.form (by omega)
  clear ho
  go_wp2_with fail
  with_reducible refine (Glaisher_no _ q (fun hh => absurd hh.1 HPT.out) _ HI1.out).mono ?_
  rintro e _ ⟨rfl, rfl⟩
  go_wp2_with fail
  with_reducible refine (list_any _ l _ (HV.out.keep HB1.out)).mono ?_
  rintro e w2 ⟨va, rfl, ho, hb⟩
  have HS2 := Lib.hid hb
  have HB2 := Lib.hid (HB1.out.trans (hb.mono HB1.out.size))
  clear hb
  rw [← HQ.out] at ho
  have HI2 := Lib.hid (ho.ints (by omega))
  obtain ⟨Aa, ca, rfl⟩ := ho.form (by omega)
  clear ho
  go_wp2_with fail
  with_reducible refine (Odds_no _ q (fun hh => absurd hh.1 HPT.out) _ HI2.out).mono ?_
  rintro e w3 ⟨rfl, hb⟩
  have HS3 := Lib.hid hb
  have HB3 := Lib.hid (HB2.out.trans (hb.mono HB2.out.size))
  clear hb
  go_wp2_with fail
  go_loopw [13] (fun x wr => ∃ t : Nat, t ≤ 3 ∧ x = .int .i64 (2 * (t : Int)) ∧ Below w.heap.size w wr) (fun x _ => 10 - (intOf x).toNat)
  case atStart => exact ⟨0, by omega, by rfl, HB3.out⟩
  case round =>
    obtain ⟨t, ht, rfl, hb⟩ := hrel
    have HBW := Lib.hid hb
    clear hb
    by_cases ht3 : t < 3
    · have d1 : decide (2 * (t : Int) < 6) = true := decide_eq_true (by omega)
      go_wp2_with fail
      with_reducible refine (HK1.out t ht3 _).mono ?_
      rintro e wa ⟨rfl, hb1⟩
      have HBA := Lib.hid (HBW.out.trans (hb1.mono HBW.out.size))
      clear hb1
      go_wp2_with fail
      with_reducible refine (HK2.out t ht3 _).mono ?_
      rintro e wb ⟨rfl, hb2⟩
      have HBB := Lib.hid (HBA.out.trans (hb2.mono HBA.out.size))
      clear hb2
      go_wp2_with fail
      go_roundw
      case rel => exact ⟨t + 1, by omega, by go_num, HBB.out⟩
      case measure => simp [intOf]; omega
    · have d1 : decide (2 * (t : Int) < 6) = false := decide_eq_false (by omega)
      go_wp2_with fail
      with_reducible refine (awake_any _).mono ?_
      rintro e wz ⟨rfl, hbz⟩
      go_wp2_with fail
      go_ret
      exact ⟨rfl, HBW.out.trans (hbz.mono HBW.out.size)⟩
set_option maxRecDepth 100000 in
set_option maxHeartbeats 4000000 in
theorem halved_111 (v : Value) (l : List Int) (hp : Part l) (hod : OddTo l l.length) (hd : Dif l) (n : Nat) (hn : n ≤ 100) (w : World) (hv : Ints w v l) :
    Calls Try.prog 14 #[v, .int .i64 n] w fun e w' => e = .returned (.bool true) ∧ Below w.heap.size w w' := by
  have HV := Lib.hid hv
  have HB0 := Lib.hid (Below.refl w.heap.size w)
  have hlen := hp.len
  have HPA := Lib.hid hp
  have HOD := Lib.hid hod
  have HDI := Lib.hid hd
  clear hp hod hd
  have HK1 := Lib.hid (fun (t : Nat) (ht : t < 3) W => show Calls Try.prog 30 #[.int .i64 n, .int .i64 (2 * (t : Int))] W (fun e w' => e = .returned (.tuple #[.int .i64 (kv n (2 * t) : Nat), .int .i64 0]) ∧ Below W.heap.size W w') from by have h := Kinds_any n (2 * t) hn (by omega) W; rwa [show ((2 * t : Nat) : Int) = 2 * (t : Int) by omega] at h)
  have HK2 := Lib.hid (fun (t : Nat) (ht : t < 3) W => show Calls Try.prog 30 #[.int .i64 n, .int .i64 (2 * (t : Int) + 1)] W (fun e w' => e = .returned (.tuple #[.int .i64 (kv n (2 * t) : Nat), .int .i64 0]) ∧ Below W.heap.size W w') from by have h := Kinds_any n (2 * t + 1) hn (by omega) W; rwa [show ((2 * t + 1 : Nat) : Int) = 2 * (t : Int) + 1 by omega, ← kv_two n t ht] at h)
  obtain ⟨A, c, hvv⟩ : ∃ A c, v = .slice A l.length c := by obtain ⟨_, A, c, h, _⟩ := hv; exact ⟨A, c, h⟩
  subst hvv
  clear hv
  go_enter Try.func14, Try.ntmps14
  go_wp2_with fail
  with_reducible refine (list_any _ l _ (HV.out.keep HB0.out)).mono ?_
  rintro e w1 ⟨va, rfl, ho, hb⟩
  have HS1 := Lib.hid hb
  have HB1 := Lib.hid (HB0.out.trans (hb.mono HB0.out.size))
  clear hb
  rw [HPA.out.take34] at ho
  have HI1 := Lib.hid (ho.ints (by omega))
  obtain ⟨Aa, ca, rfl⟩ := ho.form (by omega)
  clear ho
  go_wp2_with fail
  with_reducible refine (Glaisher_ok _ l HPA.out HOD.out _ HI1.out).mono ?_
  rintro e w2 ⟨va, m, rfl, ho, hg, hs, hb⟩
  have HS2 := Lib.hid hb
  have HB2 := Lib.hid (HB1.out.trans (hb.mono HB1.out.size))
  clear hb
  have hlm := hs.len
  obtain ⟨hx1, hx2, hx3⟩ := back_odds HPA.out HOD.out hg
  have HX1 := Lib.hid hx1
  have HX2 := Lib.hid hx2
  have HX3 := Lib.hid hx3
  have HA := Lib.hid (ho.ints (by omega))
  obtain ⟨Aa, ca, rfl⟩ := ho.form (by omega)
  clear ho hg hs hx1 hx2 hx3
  go_wp2_with fail
  with_reducible refine (Odds_ok _ m HX1.out HX2.out _ HA.out).mono ?_
  rintro e w3 ⟨va, rfl, ho, hb⟩
  have HS3 := Lib.hid hb
  have HB3 := Lib.hid (HB2.out.trans (hb.mono HB2.out.size))
  clear hb
  rw [HX3.out] at ho
  have HA2 := Lib.hid (ho.ints (by omega))
  obtain ⟨Aa, ca, rfl⟩ := ho.form (by omega)
  clear ho
  go_wp2_with fail
  with_reducible refine (equal_yes _ _ l _ HA2.out (HV.out.keep HB3.out)).mono ?_
  rintro e w4 ⟨rfl, hb⟩
  have HS4 := Lib.hid hb
  have HB4 := Lib.hid (HB3.out.trans (hb.mono HB3.out.size))
  clear hb
  go_wp2_with fail
  with_reducible refine (list_any _ l _ (HV.out.keep HB4.out)).mono ?_
  rintro e w5 ⟨va, rfl, ho, hb⟩
  have HS5 := Lib.hid hb
  have HB5 := Lib.hid (HB4.out.trans (hb.mono HB4.out.size))
  clear hb
  rw [HPA.out.take34] at ho
  have HI5 := Lib.hid (ho.ints (by omega))
  obtain ⟨Aa, ca, rfl⟩ := ho.form (by omega)
  clear ho
  have hsm := odds_small HPA.out.small
  have hol := hsm.1.len
  have HPO := Lib.hid (part_of hsm.1 (srt_fal _))
  have HOO := Lib.hid (oddTo_of hsm.2)
  clear hsm
  go_wp2_with fail
  with_reducible refine (Odds_ok _ l HPA.out HDI.out _ HI5.out).mono ?_
  rintro e w6 ⟨va, rfl, ho, hb⟩
  have HS6 := Lib.hid hb
  have HB6 := Lib.hid (HB5.out.trans (hb.mono HB5.out.size))
  clear hb
  have HBI := Lib.hid (ho.ints (by omega))
  obtain ⟨Aa, ca, rfl⟩ := ho.form (by omega)
  clear ho
  go_wp2_with fail
  with_reducible refine (Glaisher_ok _ (odds l) HPO.out HOO.out _ HBI.out).mono ?_
  rintro e w7 ⟨va, m2, rfl, ho, hg, hs, hb⟩
  have HS7 := Lib.hid hb
  have HB7 := Lib.hid (HB6.out.trans (hb.mono HB6.out.size))
  clear hb
  have hmm := back_gla HPA.out HDI.out hg
  rw [hmm] at ho
  have HB3I := Lib.hid (ho.ints (by omega))
  obtain ⟨Aa, ca, rfl⟩ := ho.form (by omega)
  clear ho hg hs hmm
  go_wp2_with fail
  with_reducible refine (equal_yes _ _ l _ HB3I.out (HV.out.keep HB7.out)).mono ?_
  rintro e w8 ⟨rfl, hb⟩
  have HS8 := Lib.hid hb
  have HB8 := Lib.hid (HB7.out.trans (hb.mono HB7.out.size))
  clear hb
  go_wp2_with fail
  go_loopw [13] (fun x wr => ∃ t : Nat, t ≤ 3 ∧ x = .int .i64 (2 * (t : Int)) ∧ Below w.heap.size w wr) (fun x _ => 10 - (intOf x).toNat)
  case atStart => exact ⟨0, by omega, by rfl, HB8.out⟩
  case round =>
    obtain ⟨t, ht, rfl, hb⟩ := hrel
    have HBW := Lib.hid hb
    clear hb
    by_cases ht3 : t < 3
    · have d1 : decide (2 * (t : Int) < 6) = true := decide_eq_true (by omega)
      go_wp2_with fail
      with_reducible refine (HK1.out t ht3 _).mono ?_
      rintro e wa ⟨rfl, hb1⟩
      have HBA := Lib.hid (HBW.out.trans (hb1.mono HBW.out.size))
      clear hb1
      go_wp2_with fail
      with_reducible refine (HK2.out t ht3 _).mono ?_
      rintro e wb ⟨rfl, hb2⟩
      have HBB := Lib.hid (HBA.out.trans (hb2.mono HBA.out.size))
      clear hb2
      go_wp2_with fail
      go_roundw
      case rel => exact ⟨t + 1, by omega, by go_num, HBB.out⟩
      case measure => simp [intOf]; omega
    · have d1 : decide (2 * (t : Int) < 6) = false := decide_eq_false (by omega)
      go_wp2_with fail
      with_reducible refine (awake_any _).mono ?_
      rintro e wz ⟨rfl, hbz⟩
      go_wp2_with fail
      go_ret
      exact ⟨rfl, HBW.out.trans (hbz.mono HBW.out.size)⟩
set_option maxRecDepth 100000 in
set_option maxHeartbeats 4000000 in
theorem halved_101 (v : Value) (l : List Int) (hp : Part l) (hod : OddTo l l.length) (hd : ¬ Dif l) (n : Nat) (hn : n ≤ 100) (w : World) (hv : Ints w v l) :
    Calls Try.prog 14 #[v, .int .i64 n] w fun e w' => e = .returned (.bool true) ∧ Below w.heap.size w w' := by
  have HV := Lib.hid hv
  have HB0 := Lib.hid (Below.refl w.heap.size w)
  have hlen := hp.len
  have HPA := Lib.hid hp
  have HOD := Lib.hid hod
  have HDI := Lib.hid hd
  clear hp hod hd
  have HK1 := Lib.hid (fun (t : Nat) (ht : t < 3) W => show Calls Try.prog 30 #[.int .i64 n, .int .i64 (2 * (t : Int))] W (fun e w' => e = .returned (.tuple #[.int .i64 (kv n (2 * t) : Nat), .int .i64 0]) ∧ Below W.heap.size W w') from by have h := Kinds_any n (2 * t) hn (by omega) W; rwa [show ((2 * t : Nat) : Int) = 2 * (t : Int) by omega] at h)
  have HK2 := Lib.hid (fun (t : Nat) (ht : t < 3) W => show Calls Try.prog 30 #[.int .i64 n, .int .i64 (2 * (t : Int) + 1)] W (fun e w' => e = .returned (.tuple #[.int .i64 (kv n (2 * t) : Nat), .int .i64 0]) ∧ Below W.heap.size W w') from by have h := Kinds_any n (2 * t + 1) hn (by omega) W; rwa [show ((2 * t + 1 : Nat) : Int) = 2 * (t : Int) + 1 by omega, ← kv_two n t ht] at h)
  obtain ⟨A, c, hvv⟩ : ∃ A c, v = .slice A l.length c := by obtain ⟨_, A, c, h, _⟩ := hv; exact ⟨A, c, h⟩
  subst hvv
  clear hv
  go_enter Try.func14, Try.ntmps14
  go_wp2_with fail
  with_reducible refine (list_any _ l _ (HV.out.keep HB0.out)).mono ?_
  rintro e w1 ⟨va, rfl, ho, hb⟩
  have HS1 := Lib.hid hb
  have HB1 := Lib.hid (HB0.out.trans (hb.mono HB0.out.size))
  clear hb
  rw [HPA.out.take34] at ho
  have HI1 := Lib.hid (ho.ints (by omega))
  obtain ⟨Aa, ca, rfl⟩ := ho.form (by omega)
  clear ho
  go_wp2_with fail
  with_reducible refine (Glaisher_ok _ l HPA.out HOD.out _ HI1.out).mono ?_
  rintro e w2 ⟨va, m, rfl, ho, hg, hs, hb⟩
  have HS2 := Lib.hid hb
  have HB2 := Lib.hid (HB1.out.trans (hb.mono HB1.out.size))
  clear hb
  have hlm := hs.len
  obtain ⟨hx1, hx2, hx3⟩ := back_odds HPA.out HOD.out hg
  have HX1 := Lib.hid hx1
  have HX2 := Lib.hid hx2
  have HX3 := Lib.hid hx3
  have HA := Lib.hid (ho.ints (by omega))
  obtain ⟨Aa, ca, rfl⟩ := ho.form (by omega)
  clear ho hg hs hx1 hx2 hx3
  go_wp2_with fail
  with_reducible refine (Odds_ok _ m HX1.out HX2.out _ HA.out).mono ?_
  rintro e w3 ⟨va, rfl, ho, hb⟩
  have HS3 := Lib.hid hb
  have HB3 := Lib.hid (HB2.out.trans (hb.mono HB2.out.size))
  clear hb
  rw [HX3.out] at ho
  have HA2 := Lib.hid (ho.ints (by omega))
  obtain ⟨Aa, ca, rfl⟩ := ho.form (by omega)
  clear ho
  go_wp2_with fail
  with_reducible refine (equal_yes _ _ l _ HA2.out (HV.out.keep HB3.out)).mono ?_
  rintro e w4 ⟨rfl, hb⟩
  have HS4 := Lib.hid hb
  have HB4 := Lib.hid (HB3.out.trans (hb.mono HB3.out.size))
  clear hb
  go_wp2_with fail
  with_reducible refine (list_any _ l _ (HV.out.keep HB4.out)).mono ?_
  rintro e w5 ⟨va, rfl, ho, hb⟩
  have HS5 := Lib.hid hb
  have HB5 := Lib.hid (HB4.out.trans (hb.mono HB4.out.size))
  clear hb
  rw [HPA.out.take34] at ho
  have HI5 := Lib.hid (ho.ints (by omega))
  obtain ⟨Aa, ca, rfl⟩ := ho.form (by omega)
  clear ho
  go_wp2_with fail
  with_reducible refine (Odds_no _ l (fun hh => absurd hh.2 HDI.out) _ HI5.out).mono ?_
  rintro e w6 ⟨rfl, hb⟩
  have HS6 := Lib.hid hb
  have HB6 := Lib.hid (HB5.out.trans (hb.mono HB5.out.size))
  clear hb
  go_wp2_with fail
  go_loopw [13] (fun x wr => ∃ t : Nat, t ≤ 3 ∧ x = .int .i64 (2 * (t : Int)) ∧ Below w.heap.size w wr) (fun x _ => 10 - (intOf x).toNat)
  case atStart => exact ⟨0, by omega, by rfl, HB6.out⟩
  case round =>
    obtain ⟨t, ht, rfl, hb⟩ := hrel
    have HBW := Lib.hid hb
    clear hb
    by_cases ht3 : t < 3
    · have d1 : decide (2 * (t : Int) < 6) = true := decide_eq_true (by omega)
      go_wp2_with fail
      with_reducible refine (HK1.out t ht3 _).mono ?_
      rintro e wa ⟨rfl, hb1⟩
      have HBA := Lib.hid (HBW.out.trans (hb1.mono HBW.out.size))
      clear hb1
      go_wp2_with fail
      with_reducible refine (HK2.out t ht3 _).mono ?_
      rintro e wb ⟨rfl, hb2⟩
      have HBB := Lib.hid (HBA.out.trans (hb2.mono HBA.out.size))
      clear hb2
      go_wp2_with fail
      go_roundw
      case rel => exact ⟨t + 1, by omega, by go_num, HBB.out⟩
      case measure => simp [intOf]; omega
    · have d1 : decide (2 * (t : Int) < 6) = false := decide_eq_false (by omega)
      go_wp2_with fail
      with_reducible refine (awake_any _).mono ?_
      rintro e wz ⟨rfl, hbz⟩
      go_wp2_with fail
      go_ret
      exact ⟨rfl, HBW.out.trans (hbz.mono HBW.out.size)⟩
set_option maxRecDepth 100000 in
set_option maxHeartbeats 4000000 in
theorem halved_011 (v : Value) (l : List Int) (hp : Part l) (hod : ¬ OddTo l l.length) (hd : Dif l) (n : Nat) (hn : n ≤ 100) (w : World) (hv : Ints w v l) :
    Calls Try.prog 14 #[v, .int .i64 n] w fun e w' => e = .returned (.bool true) ∧ Below w.heap.size w w' := by
  have HV := Lib.hid hv
  have HB0 := Lib.hid (Below.refl w.heap.size w)
  have hlen := hp.len
  have HPA := Lib.hid hp
  have HOD := Lib.hid hod
  have HDI := Lib.hid hd
  clear hp hod hd
  have HK1 := Lib.hid (fun (t : Nat) (ht : t < 3) W => show Calls Try.prog 30 #[.int .i64 n, .int .i64 (2 * (t : Int))] W (fun e w' => e = .returned (.tuple #[.int .i64 (kv n (2 * t) : Nat), .int .i64 0]) ∧ Below W.heap.size W w') from by have h := Kinds_any n (2 * t) hn (by omega) W; rwa [show ((2 * t : Nat) : Int) = 2 * (t : Int) by omega] at h)
  have HK2 := Lib.hid (fun (t : Nat) (ht : t < 3) W => show Calls Try.prog 30 #[.int .i64 n, .int .i64 (2 * (t : Int) + 1)] W (fun e w' => e = .returned (.tuple #[.int .i64 (kv n (2 * t) : Nat), .int .i64 0]) ∧ Below W.heap.size W w') from by have h := Kinds_any n (2 * t + 1) hn (by omega) W; rwa [show ((2 * t + 1 : Nat) : Int) = 2 * (t : Int) + 1 by omega, ← kv_two n t ht] at h)
  obtain ⟨A, c, hvv⟩ : ∃ A c, v = .slice A l.length c := by obtain ⟨_, A, c, h, _⟩ := hv; exact ⟨A, c, h⟩
  subst hvv
  clear hv
  go_enter Try.func14, Try.ntmps14
  go_wp2_with fail
  with_reducible refine (list_any _ l _ (HV.out.keep HB0.out)).mono ?_
  rintro e w1 ⟨va, rfl, ho, hb⟩
  have HS1 := Lib.hid hb
  have HB1 := Lib.hid (HB0.out.trans (hb.mono HB0.out.size))
  clear hb
  rw [HPA.out.take34] at ho
  have HI1 := Lib.hid (ho.ints (by omega))
  obtain ⟨Aa, ca, rfl⟩ := ho.form (by omega)
  clear ho
  go_wp2_with fail
  with_reducible refine (Glaisher_no _ l (fun hh => absurd hh.2 HOD.out) _ HI1.out).mono ?_
  rintro e _ ⟨rfl, rfl⟩
  go_wp2_with fail
  with_reducible refine (list_any _ l _ (HV.out.keep HB1.out)).mono ?_
  rintro e w2 ⟨va, rfl, ho, hb⟩
  have HS2 := Lib.hid hb
  have HB2 := Lib.hid (HB1.out.trans (hb.mono HB1.out.size))
  clear hb
  rw [HPA.out.take34] at ho
  have HI2 := Lib.hid (ho.ints (by omega))
  obtain ⟨Aa, ca, rfl⟩ := ho.form (by omega)
  clear ho
  have hsm := odds_small HPA.out.small
  have hol := hsm.1.len
  have HPO := Lib.hid (part_of hsm.1 (srt_fal _))
  have HOO := Lib.hid (oddTo_of hsm.2)
  clear hsm
  go_wp2_with fail
  with_reducible refine (Odds_ok _ l HPA.out HDI.out _ HI2.out).mono ?_
  rintro e w3 ⟨va, rfl, ho, hb⟩
  have HS3 := Lib.hid hb
  have HB3 := Lib.hid (HB2.out.trans (hb.mono HB2.out.size))
  clear hb
  have HBI := Lib.hid (ho.ints (by omega))
  obtain ⟨Aa, ca, rfl⟩ := ho.form (by omega)
  clear ho
  go_wp2_with fail
  with_reducible refine (Glaisher_ok _ (odds l) HPO.out HOO.out _ HBI.out).mono ?_
  rintro e w4 ⟨va, m2, rfl, ho, hg, hs, hb⟩
  have HS4 := Lib.hid hb
  have HB4 := Lib.hid (HB3.out.trans (hb.mono HB3.out.size))
  clear hb
  have hmm := back_gla HPA.out HDI.out hg
  rw [hmm] at ho
  have HB3I := Lib.hid (ho.ints (by omega))
  obtain ⟨Aa, ca, rfl⟩ := ho.form (by omega)
  clear ho hg hs hmm
  go_wp2_with fail
  with_reducible refine (equal_yes _ _ l _ HB3I.out (HV.out.keep HB4.out)).mono ?_
  rintro e w5 ⟨rfl, hb⟩
  have HS5 := Lib.hid hb
  have HB5 := Lib.hid (HB4.out.trans (hb.mono HB4.out.size))
  clear hb
  go_wp2_with fail
  go_loopw [13] (fun x wr => ∃ t : Nat, t ≤ 3 ∧ x = .int .i64 (2 * (t : Int)) ∧ Below w.heap.size w wr) (fun x _ => 10 - (intOf x).toNat)
  case atStart => exact ⟨0, by omega, by rfl, HB5.out⟩
  case round =>
    obtain ⟨t, ht, rfl, hb⟩ := hrel
    have HBW := Lib.hid hb
    clear hb
    by_cases ht3 : t < 3
    · have d1 : decide (2 * (t : Int) < 6) = true := decide_eq_true (by omega)
      go_wp2_with fail
      with_reducible refine (HK1.out t ht3 _).mono ?_
      rintro e wa ⟨rfl, hb1⟩
      have HBA := Lib.hid (HBW.out.trans (hb1.mono HBW.out.size))
      clear hb1
      go_wp2_with fail
      with_reducible refine (HK2.out t ht3 _).mono ?_
      rintro e wb ⟨rfl, hb2⟩
      have HBB := Lib.hid (HBA.out.trans (hb2.mono HBA.out.size))
      clear hb2
      go_wp2_with fail
      go_roundw
      case rel => exact ⟨t + 1, by omega, by go_num, HBB.out⟩
      case measure => simp [intOf]; omega
    · have d1 : decide (2 * (t : Int) < 6) = false := decide_eq_false (by omega)
      go_wp2_with fail
      with_reducible refine (awake_any _).mono ?_
      rintro e wz ⟨rfl, hbz⟩
      go_wp2_with fail
      go_ret
      exact ⟨rfl, HBW.out.trans (hbz.mono HBW.out.size)⟩
set_option maxRecDepth 100000 in
set_option maxHeartbeats 4000000 in
theorem halved_001 (v : Value) (l : List Int) (hp : Part l) (hod : ¬ OddTo l l.length) (hd : ¬ Dif l) (n : Nat) (hn : n ≤ 100) (w : World) (hv : Ints w v l) :
    Calls Try.prog 14 #[v, .int .i64 n] w fun e w' => e = .returned (.bool true) ∧ Below w.heap.size w w' := by
  have HV := Lib.hid hv
  have HB0 := Lib.hid (Below.refl w.heap.size w)
  have hlen := hp.len
  have HPA := Lib.hid hp
  have HOD := Lib.hid hod
  have HDI := Lib.hid hd
  clear hp hod hd
  have HK1 := Lib.hid (fun (t : Nat) (ht : t < 3) W => show Calls Try.prog 30 #[.int .i64 n, .int .i64 (2 * (t : Int))] W (fun e w' => e = .returned (.tuple #[.int .i64 (kv n (2 * t) : Nat), .int .i64 0]) ∧ Below W.heap.size W w') from by have h := Kinds_any n (2 * t) hn (by omega) W; rwa [show ((2 * t : Nat) : Int) = 2 * (t : Int) by omega] at h)
  have HK2 := Lib.hid (fun (t : Nat) (ht : t < 3) W => show Calls Try.prog 30 #[.int .i64 n, .int .i64 (2 * (t : Int) + 1)] W (fun e w' => e = .returned (.tuple #[.int .i64 (kv n (2 * t) : Nat), .int .i64 0]) ∧ Below W.heap.size W w') from by have h := Kinds_any n (2 * t + 1) hn (by omega) W; rwa [show ((2 * t + 1 : Nat) : Int) = 2 * (t : Int) + 1 by omega, ← kv_two n t ht] at h)
  obtain ⟨A, c, hvv⟩ : ∃ A c, v = .slice A l.length c := by obtain ⟨_, A, c, h, _⟩ := hv; exact ⟨A, c, h⟩
  subst hvv
  clear hv
  go_enter Try.func14, Try.ntmps14
  go_wp2_with fail
  with_reducible refine (list_any _ l _ (HV.out.keep HB0.out)).mono ?_
  rintro e w1 ⟨va, rfl, ho, hb⟩
  have HS1 := Lib.hid hb
  have HB1 := Lib.hid (HB0.out.trans (hb.mono HB0.out.size))
  clear hb
  rw [HPA.out.take34] at ho
  have HI1 := Lib.hid (ho.ints (by omega))
  obtain ⟨Aa, ca, rfl⟩ := ho.form (by omega)
  clear ho
  go_wp2_with fail
  with_reducible refine (Glaisher_no _ l (fun hh => absurd hh.2 HOD.out) _ HI1.out).mono ?_
  rintro e _ ⟨rfl, rfl⟩
  go_wp2_with fail
  with_reducible refine (list_any _ l _ (HV.out.keep HB1.out)).mono ?_
  rintro e w2 ⟨va, rfl, ho, hb⟩
  have HS2 := Lib.hid hb
  have HB2 := Lib.hid (HB1.out.trans (hb.mono HB1.out.size))
  clear hb
  rw [HPA.out.take34] at ho
  have HI2 := Lib.hid (ho.ints (by omega))
  obtain ⟨Aa, ca, rfl⟩ := ho.form (by omega)
  clear ho
  go_wp2_with fail
  with_reducible refine (Odds_no _ l (fun hh => absurd hh.2 HDI.out) _ HI2.out).mono ?_
  rintro e w3 ⟨rfl, hb⟩
  have HS3 := Lib.hid hb
  have HB3 := Lib.hid (HB2.out.trans (hb.mono HB2.out.size))
  clear hb
  go_wp2_with fail
  go_loopw [13] (fun x wr => ∃ t : Nat, t ≤ 3 ∧ x = .int .i64 (2 * (t : Int)) ∧ Below w.heap.size w wr) (fun x _ => 10 - (intOf x).toNat)
  case atStart => exact ⟨0, by omega, by rfl, HB3.out⟩
  case round =>
    obtain ⟨t, ht, rfl, hb⟩ := hrel
    have HBW := Lib.hid hb
    clear hb
    by_cases ht3 : t < 3
    · have d1 : decide (2 * (t : Int) < 6) = true := decide_eq_true (by omega)
      go_wp2_with fail
      with_reducible refine (HK1.out t ht3 _).mono ?_
      rintro e wa ⟨rfl, hb1⟩
      have HBA := Lib.hid (HBW.out.trans (hb1.mono HBW.out.size))
      clear hb1
      go_wp2_with fail
      with_reducible refine (HK2.out t ht3 _).mono ?_
      rintro e wb ⟨rfl, hb2⟩
      have HBB := Lib.hid (HBA.out.trans (hb2.mono HBA.out.size))
      clear hb2
      go_wp2_with fail
      go_roundw
      case rel => exact ⟨t + 1, by omega, by go_num, HBB.out⟩
      case measure => simp [intOf]; omega
    · have d1 : decide (2 * (t : Int) < 6) = false := decide_eq_false (by omega)
      go_wp2_with fail
      with_reducible refine (awake_any _).mono ?_
      rintro e wz ⟨rfl, hbz⟩
      go_wp2_with fail
      go_ret
      exact ⟨rfl, HBW.out.trans (hbz.mono HBW.out.size)⟩
set_option maxRecDepth 100000 in
set_option maxHeartbeats 4000000 in
theorem halved_none0 (v : Value) (l : List Int) (hp : ¬ Part l) (n : Int) (hn : n < 0 ∨ 100 < n) (w : World) (hv : Ints w v l) :
    Calls Try.prog 14 #[v, .int .i64 n] w fun e w' => e = .returned (.bool true) ∧ Below w.heap.size w w' := by
  have HV := Lib.hid hv
  have HB0 := Lib.hid (Below.refl w.heap.size w)
  have HPA := Lib.hid hp
  obtain ⟨q, hq⟩ : ∃ q, q = l.take 34 := ⟨_, rfl⟩
  have HPT := Lib.hid (show ¬ Part q by rw [hq]; exact part_take hp)
  have hql : q.length ≤ 34 := by rw [hq, List.length_take]; omega
  have HQ := Lib.hid hq
  clear hp hq
  have HK1 := Lib.hid (fun (t : Nat) (ht : t < 3) W => show Calls Try.prog 30 #[.int .i64 n, .int .i64 (2 * (t : Int))] W (fun e w' => e = .returned (.tuple #[.int .i64 0, .int .i64 2]) ∧ W = w') from Kinds_no n _ hn W)
  have HK2 := Lib.hid (fun (t : Nat) (ht : t < 3) W => show Calls Try.prog 30 #[.int .i64 n, .int .i64 (2 * (t : Int) + 1)] W (fun e w' => e = .returned (.tuple #[.int .i64 0, .int .i64 2]) ∧ W = w') from Kinds_no n _ hn W)
  clear hn
  obtain ⟨A, c, hvv⟩ : ∃ A c, v = .slice A l.length c := by obtain ⟨_, A, c, h, _⟩ := hv; exact ⟨A, c, h⟩
  subst hvv
  clear hv
  go_enter Try.func14, Try.ntmps14
  go_wp2_with fail
  with_reducible refine (list_any _ l _ (HV.out.keep HB0.out)).mono ?_
  rintro e w1 ⟨va, rfl, ho, hb⟩
  have HS1 := Lib.hid hb
  have HB1 := Lib.hid (HB0.out.trans (hb.mono HB0.out.size))
  clear hb
  rw [← HQ.out] at ho
  have HI1 := Lib.hid (ho.ints (by omega))
  obtain ⟨Aa, ca, rfl⟩ := ho.form (by omega)
  clear ho
  go_wp2_with fail
  with_reducible refine (Glaisher_no _ q (fun hh => absurd hh.1 HPT.out) _ HI1.out).mono ?_
  rintro e _ ⟨rfl, rfl⟩
  go_wp2_with fail
  with_reducible refine (list_any _ l _ (HV.out.keep HB1.out)).mono ?_
  rintro e w2 ⟨va, rfl, ho, hb⟩
  have HS2 := Lib.hid hb
  have HB2 := Lib.hid (HB1.out.trans (hb.mono HB1.out.size))
  clear hb
  rw [← HQ.out] at ho
  have HI2 := Lib.hid (ho.ints (by omega))
  obtain ⟨Aa, ca, rfl⟩ := ho.form (by omega)
  clear ho
  go_wp2_with fail
  with_reducible refine (Odds_no _ q (fun hh => absurd hh.1 HPT.out) _ HI2.out).mono ?_
  rintro e w3 ⟨rfl, hb⟩
  have HS3 := Lib.hid hb
  have HB3 := Lib.hid (HB2.out.trans (hb.mono HB2.out.size))
  clear hb
  go_wp2_with fail
  go_loopw [13] (fun x wr => ∃ t : Nat, t ≤ 3 ∧ x = .int .i64 (2 * (t : Int)) ∧ Below w.heap.size w wr) (fun x _ => 10 - (intOf x).toNat)
  case atStart => exact ⟨0, by omega, by rfl, HB3.out⟩
  case round =>
    obtain ⟨t, ht, rfl, hb⟩ := hrel
    have HBW := Lib.hid hb
    clear hb
    by_cases ht3 : t < 3
    · have d1 : decide (2 * (t : Int) < 6) = true := decide_eq_true (by omega)
      go_wp2_with fail
      with_reducible refine (HK1.out t ht3 _).mono ?_
      rintro e _ ⟨rfl, rfl⟩
      go_wp2_with fail
      with_reducible refine (HK2.out t ht3 _).mono ?_
      rintro e _ ⟨rfl, rfl⟩
      have HBB := HBW
      go_wp2_with fail
      go_roundw
      case rel => exact ⟨t + 1, by omega, by go_num, HBB.out⟩
      case measure => simp [intOf]; omega
    · have d1 : decide (2 * (t : Int) < 6) = false := decide_eq_false (by omega)
      go_wp2_with fail
      with_reducible refine (awake_any _).mono ?_
      rintro e wz ⟨rfl, hbz⟩
      go_wp2_with fail
      go_ret
      exact ⟨rfl, HBW.out.trans (hbz.mono HBW.out.size)⟩
set_option maxRecDepth 100000 in
set_option maxHeartbeats 4000000 in
theorem halved_110 (v : Value) (l : List Int) (hp : Part l) (hod : OddTo l l.length) (hd : Dif l) (n : Int) (hn : n < 0 ∨ 100 < n) (w : World) (hv : Ints w v l) :
    Calls Try.prog 14 #[v, .int .i64 n] w fun e w' => e = .returned (.bool true) ∧ Below w.heap.size w w' := by
  have HV := Lib.hid hv
  have HB0 := Lib.hid (Below.refl w.heap.size w)
  have hlen := hp.len
  have HPA := Lib.hid hp
  have HOD := Lib.hid hod
  have HDI := Lib.hid hd
  clear hp hod hd
  have HK1 := Lib.hid (fun (t : Nat) (ht : t < 3) W => show Calls Try.prog 30 #[.int .i64 n, .int .i64 (2 * (t : Int))] W (fun e w' => e = .returned (.tuple #[.int .i64 0, .int .i64 2]) ∧ W = w') from Kinds_no n _ hn W)
  have HK2 := Lib.hid (fun (t : Nat) (ht : t < 3) W => show Calls Try.prog 30 #[.int .i64 n, .int .i64 (2 * (t : Int) + 1)] W (fun e w' => e = .returned (.tuple #[.int .i64 0, .int .i64 2]) ∧ W = w') from Kinds_no n _ hn W)
  clear hn
  obtain ⟨A, c, hvv⟩ : ∃ A c, v = .slice A l.length c := by obtain ⟨_, A, c, h, _⟩ := hv; exact ⟨A, c, h⟩
  subst hvv
  clear hv
  go_enter Try.func14, Try.ntmps14
  go_wp2_with fail
  with_reducible refine (list_any _ l _ (HV.out.keep HB0.out)).mono ?_
  rintro e w1 ⟨va, rfl, ho, hb⟩
  have HS1 := Lib.hid hb
  have HB1 := Lib.hid (HB0.out.trans (hb.mono HB0.out.size))
  clear hb
  rw [HPA.out.take34] at ho
  have HI1 := Lib.hid (ho.ints (by omega))
  obtain ⟨Aa, ca, rfl⟩ := ho.form (by omega)
  clear ho
  go_wp2_with fail
  with_reducible refine (Glaisher_ok _ l HPA.out HOD.out _ HI1.out).mono ?_
  rintro e w2 ⟨va, m, rfl, ho, hg, hs, hb⟩
  have HS2 := Lib.hid hb
  have HB2 := Lib.hid (HB1.out.trans (hb.mono HB1.out.size))
  clear hb
  have hlm := hs.len
  obtain ⟨hx1, hx2, hx3⟩ := back_odds HPA.out HOD.out hg
  have HX1 := Lib.hid hx1
  have HX2 := Lib.hid hx2
  have HX3 := Lib.hid hx3
  have HA := Lib.hid (ho.ints (by omega))
  obtain ⟨Aa, ca, rfl⟩ := ho.form (by omega)
  clear ho hg hs hx1 hx2 hx3
  go_wp2_with fail
  with_reducible refine (Odds_ok _ m HX1.out HX2.out _ HA.out).mono ?_
  rintro e w3 ⟨va, rfl, ho, hb⟩
  have HS3 := Lib.hid hb
  have HB3 := Lib.hid (HB2.out.trans (hb.mono HB2.out.size))
  clear hb
  rw [HX3.out] at ho
  have HA2 := Lib.hid (ho.ints (by omega))
  obtain ⟨Aa, ca, rfl⟩ := ho.form (by omega)
  clear ho
  go_wp2_with fail
  with_reducible refine (equal_yes _ _ l _ HA2.out (HV.out.keep HB3.out)).mono ?_
  rintro e w4 ⟨rfl, hb⟩
  have HS4 := Lib.hid hb
  have HB4 := Lib.hid (HB3.out.trans (hb.mono HB3.out.size))
  clear hb
  go_wp2_with fail
  with_reducible refine (list_any _ l _ (HV.out.keep HB4.out)).mono ?_
  rintro e w5 ⟨va, rfl, ho, hb⟩
  have HS5 := Lib.hid hb
  have HB5 := Lib.hid (HB4.out.trans (hb.mono HB4.out.size))
  clear hb
  rw [HPA.out.take34] at ho
  have HI5 := Lib.hid (ho.ints (by omega))
  obtain ⟨Aa, ca, rfl⟩ := ho.form (by omega)
  clear ho
  have hsm := odds_small HPA.out.small
  have hol := hsm.1.len
  have HPO := Lib.hid (part_of hsm.1 (srt_fal _))
  have HOO := Lib.hid (oddTo_of hsm.2)
  clear hsm
  go_wp2_with fail
  with_reducible refine (Odds_ok _ l HPA.out HDI.out _ HI5.out).mono ?_
  rintro e w6 ⟨va, rfl, ho, hb⟩
  have HS6 := Lib.hid hb
  have HB6 := Lib.hid (HB5.out.trans (hb.mono HB5.out.size))
  clear hb
  have HBI := Lib.hid (ho.ints (by omega))
  obtain ⟨Aa, ca, rfl⟩ := ho.form (by omega)
  clear ho
  go_wp2_with fail
  with_reducible refine (Glaisher_ok _ (odds l) HPO.out HOO.out _ HBI.out).mono ?_
  rintro e w7 ⟨va, m2, rfl, ho, hg, hs, hb⟩
  have HS7 := Lib.hid hb
  have HB7 := Lib.hid (HB6.out.trans (hb.mono HB6.out.size))
  clear hb
  have hmm := back_gla HPA.out HDI.out hg
  rw [hmm] at ho
  have HB3I := Lib.hid (ho.ints (by omega))
  obtain ⟨Aa, ca, rfl⟩ := ho.form (by omega)
  clear ho hg hs hmm
  go_wp2_with fail
  with_reducible refine (equal_yes _ _ l _ HB3I.out (HV.out.keep HB7.out)).mono ?_
  rintro e w8 ⟨rfl, hb⟩
  have HS8 := Lib.hid hb
  have HB8 := Lib.hid (HB7.out.trans (hb.mono HB7.out.size))
  clear hb
  go_wp2_with fail
  go_loopw [13] (fun x wr => ∃ t : Nat, t ≤ 3 ∧ x = .int .i64 (2 * (t : Int)) ∧ Below w.heap.size w wr) (fun x _ => 10 - (intOf x).toNat)
  case atStart => exact ⟨0, by omega, by rfl, HB8.out⟩
  case round =>
    obtain ⟨t, ht, rfl, hb⟩ := hrel
    have HBW := Lib.hid hb
    clear hb
    by_cases ht3 : t < 3
    · have d1 : decide (2 * (t : Int) < 6) = true := decide_eq_true (by omega)
      go_wp2_with fail
      with_reducible refine (HK1.out t ht3 _).mono ?_
      rintro e _ ⟨rfl, rfl⟩
      go_wp2_with fail
      with_reducible refine (HK2.out t ht3 _).mono ?_
      rintro e _ ⟨rfl, rfl⟩
      have HBB := HBW
      go_wp2_with fail
      go_roundw
      case rel => exact ⟨t + 1, by omega, by go_num, HBB.out⟩
      case measure => simp [intOf]; omega
    · have d1 : decide (2 * (t : Int) < 6) = false := decide_eq_false (by omega)
      go_wp2_with fail
      with_reducible refine (awake_any _).mono ?_
      rintro e wz ⟨rfl, hbz⟩
      go_wp2_with fail
      go_ret
      exact ⟨rfl, HBW.out.trans (hbz.mono HBW.out.size)⟩
set_option maxRecDepth 100000 in
set_option maxHeartbeats 4000000 in
theorem halved_100 (v : Value) (l : List Int) (hp : Part l) (hod : OddTo l l.length) (hd : ¬ Dif l) (n : Int) (hn : n < 0 ∨ 100 < n) (w : World) (hv : Ints w v l) :
    Calls Try.prog 14 #[v, .int .i64 n] w fun e w' => e = .returned (.bool true) ∧ Below w.heap.size w w' := by
  have HV := Lib.hid hv
  have HB0 := Lib.hid (Below.refl w.heap.size w)
  have hlen := hp.len
  have HPA := Lib.hid hp
  have HOD := Lib.hid hod
  have HDI := Lib.hid hd
  clear hp hod hd
  have HK1 := Lib.hid (fun (t : Nat) (ht : t < 3) W => show Calls Try.prog 30 #[.int .i64 n, .int .i64 (2 * (t : Int))] W (fun e w' => e = .returned (.tuple #[.int .i64 0, .int .i64 2]) ∧ W = w') from Kinds_no n _ hn W)
  have HK2 := Lib.hid (fun (t : Nat) (ht : t < 3) W => show Calls Try.prog 30 #[.int .i64 n, .int .i64 (2 * (t : Int) + 1)] W (fun e w' => e = .returned (.tuple #[.int .i64 0, .int .i64 2]) ∧ W = w') from Kinds_no n _ hn W)
  clear hn
  obtain ⟨A, c, hvv⟩ : ∃ A c, v = .slice A l.length c := by obtain ⟨_, A, c, h, _⟩ := hv; exact ⟨A, c, h⟩
  subst hvv
  clear hv
  go_enter Try.func14, Try.ntmps14
  go_wp2_with fail
  with_reducible refine (list_any _ l _ (HV.out.keep HB0.out)).mono ?_
  rintro e w1 ⟨va, rfl, ho, hb⟩
  have HS1 := Lib.hid hb
  have HB1 := Lib.hid (HB0.out.trans (hb.mono HB0.out.size))
  clear hb
  rw [HPA.out.take34] at ho
  have HI1 := Lib.hid (ho.ints (by omega))
  obtain ⟨Aa, ca, rfl⟩ := ho.form (by omega)
  clear ho
  go_wp2_with fail
  with_reducible refine (Glaisher_ok _ l HPA.out HOD.out _ HI1.out).mono ?_
  rintro e w2 ⟨va, m, rfl, ho, hg, hs, hb⟩
  have HS2 := Lib.hid hb
  have HB2 := Lib.hid (HB1.out.trans (hb.mono HB1.out.size))
  clear hb
  have hlm := hs.len
  obtain ⟨hx1, hx2, hx3⟩ := back_odds HPA.out HOD.out hg
  have HX1 := Lib.hid hx1
  have HX2 := Lib.hid hx2
  have HX3 := Lib.hid hx3
  have HA := Lib.hid (ho.ints (by omega))
  obtain ⟨Aa, ca, rfl⟩ := ho.form (by omega)
  clear ho hg hs hx1 hx2 hx3
  go_wp2_with fail
  with_reducible refine (Odds_ok _ m HX1.out HX2.out _ HA.out).mono ?_
  rintro e w3 ⟨va, rfl, ho, hb⟩
  have HS3 := Lib.hid hb
  have HB3 := Lib.hid (HB2.out.trans (hb.mono HB2.out.size))
  clear hb
  rw [HX3.out] at ho
  have HA2 := Lib.hid (ho.ints (by omega))
  obtain ⟨Aa, ca, rfl⟩ := ho.form (by omega)
  clear ho
  go_wp2_with fail
  with_reducible refine (equal_yes _ _ l _ HA2.out (HV.out.keep HB3.out)).mono ?_
  rintro e w4 ⟨rfl, hb⟩
  have HS4 := Lib.hid hb
  have HB4 := Lib.hid (HB3.out.trans (hb.mono HB3.out.size))
  clear hb
  go_wp2_with fail
  with_reducible refine (list_any _ l _ (HV.out.keep HB4.out)).mono ?_
  rintro e w5 ⟨va, rfl, ho, hb⟩
  have HS5 := Lib.hid hb
  have HB5 := Lib.hid (HB4.out.trans (hb.mono HB4.out.size))
  clear hb
  rw [HPA.out.take34] at ho
  have HI5 := Lib.hid (ho.ints (by omega))
  obtain ⟨Aa, ca, rfl⟩ := ho.form (by omega)
  clear ho
  go_wp2_with fail
  with_reducible refine (Odds_no _ l (fun hh => absurd hh.2 HDI.out) _ HI5.out).mono ?_
  rintro e w6 ⟨rfl, hb⟩
  have HS6 := Lib.hid hb
  have HB6 := Lib.hid (HB5.out.trans (hb.mono HB5.out.size))
  clear hb
  go_wp2_with fail
  go_loopw [13] (fun x wr => ∃ t : Nat, t ≤ 3 ∧ x = .int .i64 (2 * (t : Int)) ∧ Below w.heap.size w wr) (fun x _ => 10 - (intOf x).toNat)
  case atStart => exact ⟨0, by omega, by rfl, HB6.out⟩
  case round =>
    obtain ⟨t, ht, rfl, hb⟩ := hrel
    have HBW := Lib.hid hb
    clear hb
    by_cases ht3 : t < 3
    · have d1 : decide (2 * (t : Int) < 6) = true := decide_eq_true (by omega)
      go_wp2_with fail
      with_reducible refine (HK1.out t ht3 _).mono ?_
      rintro e _ ⟨rfl, rfl⟩
      go_wp2_with fail
      with_reducible refine (HK2.out t ht3 _).mono ?_
      rintro e _ ⟨rfl, rfl⟩
      have HBB := HBW
      go_wp2_with fail
      go_roundw
      case rel => exact ⟨t + 1, by omega, by go_num, HBB.out⟩
      case measure => simp [intOf]; omega
    · have d1 : decide (2 * (t : Int) < 6) = false := decide_eq_false (by omega)
      go_wp2_with fail
      with_reducible refine (awake_any _).mono ?_
      rintro e wz ⟨rfl, hbz⟩
      go_wp2_with fail
      go_ret
      exact ⟨rfl, HBW.out.trans (hbz.mono HBW.out.size)⟩
set_option maxRecDepth 100000 in
set_option maxHeartbeats 4000000 in
theorem halved_010 (v : Value) (l : List Int) (hp : Part l) (hod : ¬ OddTo l l.length) (hd : Dif l) (n : Int) (hn : n < 0 ∨ 100 < n) (w : World) (hv : Ints w v l) :
    Calls Try.prog 14 #[v, .int .i64 n] w fun e w' => e = .returned (.bool true) ∧ Below w.heap.size w w' := by
  have HV := Lib.hid hv
  have HB0 := Lib.hid (Below.refl w.heap.size w)
  have hlen := hp.len
  have HPA := Lib.hid hp
  have HOD := Lib.hid hod
  have HDI := Lib.hid hd
  clear hp hod hd
  have HK1 := Lib.hid (fun (t : Nat) (ht : t < 3) W => show Calls Try.prog 30 #[.int .i64 n, .int .i64 (2 * (t : Int))] W (fun e w' => e = .returned (.tuple #[.int .i64 0, .int .i64 2]) ∧ W = w') from Kinds_no n _ hn W)
  have HK2 := Lib.hid (fun (t : Nat) (ht : t < 3) W => show Calls Try.prog 30 #[.int .i64 n, .int .i64 (2 * (t : Int) + 1)] W (fun e w' => e = .returned (.tuple #[.int .i64 0, .int .i64 2]) ∧ W = w') from Kinds_no n _ hn W)
  clear hn
  obtain ⟨A, c, hvv⟩ : ∃ A c, v = .slice A l.length c := by obtain ⟨_, A, c, h, _⟩ := hv; exact ⟨A, c, h⟩
  subst hvv
  clear hv
  go_enter Try.func14, Try.ntmps14
  go_wp2_with fail
  with_reducible refine (list_any _ l _ (HV.out.keep HB0.out)).mono ?_
  rintro e w1 ⟨va, rfl, ho, hb⟩
  have HS1 := Lib.hid hb
  have HB1 := Lib.hid (HB0.out.trans (hb.mono HB0.out.size))
  clear hb
  rw [HPA.out.take34] at ho
  have HI1 := Lib.hid (ho.ints (by omega))
  obtain ⟨Aa, ca, rfl⟩ := ho.form (by omega)
  clear ho
  go_wp2_with fail
  with_reducible refine (Glaisher_no _ l (fun hh => absurd hh.2 HOD.out) _ HI1.out).mono ?_
  rintro e _ ⟨rfl, rfl⟩
  go_wp2_with fail
  with_reducible refine (list_any _ l _ (HV.out.keep HB1.out)).mono ?_
  rintro e w2 ⟨va, rfl, ho, hb⟩
  have HS2 := Lib.hid hb
  have HB2 := Lib.hid (HB1.out.trans (hb.mono HB1.out.size))
  clear hb
  rw [HPA.out.take34] at ho
  have HI2 := Lib.hid (ho.ints (by omega))
  obtain ⟨Aa, ca, rfl⟩ := ho.form (by omega)
  clear ho
  have hsm := odds_small HPA.out.small
  have hol := hsm.1.len
  have HPO := Lib.hid (part_of hsm.1 (srt_fal _))
  have HOO := Lib.hid (oddTo_of hsm.2)
  clear hsm
  go_wp2_with fail
  with_reducible refine (Odds_ok _ l HPA.out HDI.out _ HI2.out).mono ?_
  rintro e w3 ⟨va, rfl, ho, hb⟩
  have HS3 := Lib.hid hb
  have HB3 := Lib.hid (HB2.out.trans (hb.mono HB2.out.size))
  clear hb
  have HBI := Lib.hid (ho.ints (by omega))
  obtain ⟨Aa, ca, rfl⟩ := ho.form (by omega)
  clear ho
  go_wp2_with fail
  with_reducible refine (Glaisher_ok _ (odds l) HPO.out HOO.out _ HBI.out).mono ?_
  rintro e w4 ⟨va, m2, rfl, ho, hg, hs, hb⟩
  have HS4 := Lib.hid hb
  have HB4 := Lib.hid (HB3.out.trans (hb.mono HB3.out.size))
  clear hb
  have hmm := back_gla HPA.out HDI.out hg
  rw [hmm] at ho
  have HB3I := Lib.hid (ho.ints (by omega))
  obtain ⟨Aa, ca, rfl⟩ := ho.form (by omega)
  clear ho hg hs hmm
  go_wp2_with fail
  with_reducible refine (equal_yes _ _ l _ HB3I.out (HV.out.keep HB4.out)).mono ?_
  rintro e w5 ⟨rfl, hb⟩
  have HS5 := Lib.hid hb
  have HB5 := Lib.hid (HB4.out.trans (hb.mono HB4.out.size))
  clear hb
  go_wp2_with fail
  go_loopw [13] (fun x wr => ∃ t : Nat, t ≤ 3 ∧ x = .int .i64 (2 * (t : Int)) ∧ Below w.heap.size w wr) (fun x _ => 10 - (intOf x).toNat)
  case atStart => exact ⟨0, by omega, by rfl, HB5.out⟩
  case round =>
    obtain ⟨t, ht, rfl, hb⟩ := hrel
    have HBW := Lib.hid hb
    clear hb
    by_cases ht3 : t < 3
    · have d1 : decide (2 * (t : Int) < 6) = true := decide_eq_true (by omega)
      go_wp2_with fail
      with_reducible refine (HK1.out t ht3 _).mono ?_
      rintro e _ ⟨rfl, rfl⟩
      go_wp2_with fail
      with_reducible refine (HK2.out t ht3 _).mono ?_
      rintro e _ ⟨rfl, rfl⟩
      have HBB := HBW
      go_wp2_with fail
      go_roundw
      case rel => exact ⟨t + 1, by omega, by go_num, HBB.out⟩
      case measure => simp [intOf]; omega
    · have d1 : decide (2 * (t : Int) < 6) = false := decide_eq_false (by omega)
      go_wp2_with fail
      with_reducible refine (awake_any _).mono ?_
      rintro e wz ⟨rfl, hbz⟩
      go_wp2_with fail
      go_ret
      exact ⟨rfl, HBW.out.trans (hbz.mono HBW.out.size)⟩
set_option maxRecDepth 100000 in
set_option maxHeartbeats 4000000 in
theorem halved_000 (v : Value) (l : List Int) (hp : Part l) (hod : ¬ OddTo l l.length) (hd : ¬ Dif l) (n : Int) (hn : n < 0 ∨ 100 < n) (w : World) (hv : Ints w v l) :
    Calls Try.prog 14 #[v, .int .i64 n] w fun e w' => e = .returned (.bool true) ∧ Below w.heap.size w w' := by
  have HV := Lib.hid hv
  have HB0 := Lib.hid (Below.refl w.heap.size w)
  have hlen := hp.len
  have HPA := Lib.hid hp
  have HOD := Lib.hid hod
  have HDI := Lib.hid hd
  clear hp hod hd
  have HK1 := Lib.hid (fun (t : Nat) (ht : t < 3) W => show Calls Try.prog 30 #[.int .i64 n, .int .i64 (2 * (t : Int))] W (fun e w' => e = .returned (.tuple #[.int .i64 0, .int .i64 2]) ∧ W = w') from Kinds_no n _ hn W)
  have HK2 := Lib.hid (fun (t : Nat) (ht : t < 3) W => show Calls Try.prog 30 #[.int .i64 n, .int .i64 (2 * (t : Int) + 1)] W (fun e w' => e = .returned (.tuple #[.int .i64 0, .int .i64 2]) ∧ W = w') from Kinds_no n _ hn W)
  clear hn
  obtain ⟨A, c, hvv⟩ : ∃ A c, v = .slice A l.length c := by obtain ⟨_, A, c, h, _⟩ := hv; exact ⟨A, c, h⟩
  subst hvv
  clear hv
  go_enter Try.func14, Try.ntmps14
  go_wp2_with fail
  with_reducible refine (list_any _ l _ (HV.out.keep HB0.out)).mono ?_
  rintro e w1 ⟨va, rfl, ho, hb⟩
  have HS1 := Lib.hid hb
  have HB1 := Lib.hid (HB0.out.trans (hb.mono HB0.out.size))
  clear hb
  rw [HPA.out.take34] at ho
  have HI1 := Lib.hid (ho.ints (by omega))
  obtain ⟨Aa, ca, rfl⟩ := ho.form (by omega)
  clear ho
  go_wp2_with fail
  with_reducible refine (Glaisher_no _ l (fun hh => absurd hh.2 HOD.out) _ HI1.out).mono ?_
  rintro e _ ⟨rfl, rfl⟩
  go_wp2_with fail
  with_reducible refine (list_any _ l _ (HV.out.keep HB1.out)).mono ?_
  rintro e w2 ⟨va, rfl, ho, hb⟩
  have HS2 := Lib.hid hb
  have HB2 := Lib.hid (HB1.out.trans (hb.mono HB1.out.size))
  clear hb
  rw [HPA.out.take34] at ho
  have HI2 := Lib.hid (ho.ints (by omega))
  obtain ⟨Aa, ca, rfl⟩ := ho.form (by omega)
  clear ho
  go_wp2_with fail
  with_reducible refine (Odds_no _ l (fun hh => absurd hh.2 HDI.out) _ HI2.out).mono ?_
  rintro e w3 ⟨rfl, hb⟩
  have HS3 := Lib.hid hb
  have HB3 := Lib.hid (HB2.out.trans (hb.mono HB2.out.size))
  clear hb
  go_wp2_with fail
  go_loopw [13] (fun x wr => ∃ t : Nat, t ≤ 3 ∧ x = .int .i64 (2 * (t : Int)) ∧ Below w.heap.size w wr) (fun x _ => 10 - (intOf x).toNat)
  case atStart => exact ⟨0, by omega, by rfl, HB3.out⟩
  case round =>
    obtain ⟨t, ht, rfl, hb⟩ := hrel
    have HBW := Lib.hid hb
    clear hb
    by_cases ht3 : t < 3
    · have d1 : decide (2 * (t : Int) < 6) = true := decide_eq_true (by omega)
      go_wp2_with fail
      with_reducible refine (HK1.out t ht3 _).mono ?_
      rintro e _ ⟨rfl, rfl⟩
      go_wp2_with fail
      with_reducible refine (HK2.out t ht3 _).mono ?_
      rintro e _ ⟨rfl, rfl⟩
      have HBB := HBW
      go_wp2_with fail
      go_roundw
      case rel => exact ⟨t + 1, by omega, by go_num, HBB.out⟩
      case measure => simp [intOf]; omega
    · have d1 : decide (2 * (t : Int) < 6) = false := decide_eq_false (by omega)
      go_wp2_with fail
      with_reducible refine (awake_any _).mono ?_
      rintro e wz ⟨rfl, hbz⟩
      go_wp2_with fail
      go_ret
      exact ⟨rfl, HBW.out.trans (hbz.mono HBW.out.size)⟩
theorem partsHalved_walk (w : World) (v : Value) (l : List Int) (hv : Ints w v l) (_ : ∀ n ∈ l, -9223372036854775808 ≤ n ∧ n ≤ 9223372036854775807) (n : Int) (_ : -9223372036854775808 ≤ n ∧ n ≤ 9223372036854775807) :
    Calls Try.prog 14 #[v, .int .i64 n] w fun e w' => e = .returned (.bool true) ∧ Below w.heap.size w w' := by
  by_cases hn : n < 0 ∨ 100 < n
  · by_cases hp : Part l
    · by_cases ho : OddTo l l.length
      · by_cases hd : Dif l
        · exact halved_110 v l hp ho hd n hn w hv
        · exact halved_100 v l hp ho hd n hn w hv
      · by_cases hd : Dif l
        · exact halved_010 v l hp ho hd n hn w hv
        · exact halved_000 v l hp ho hd n hn w hv
    · exact halved_none0 v l hp n hn w hv
  · obtain ⟨k, rfl⟩ : ∃ k : Nat, n = k := ⟨n.toNat, by omega⟩
    by_cases hp : Part l
    · by_cases ho : OddTo l l.length
      · by_cases hd : Dif l
        · exact halved_111 v l hp ho hd k (by omega) w hv
        · exact halved_101 v l hp ho hd k (by omega) w hv
      · by_cases hd : Dif l
        · exact halved_011 v l hp ho hd k (by omega) w hv
        · exact halved_001 v l hp ho hd k (by omega) w hv
    · exact halved_none1 v l hp k (by omega) w hv
end Go.Proofs.Ytpgpkgnljoedaaa
