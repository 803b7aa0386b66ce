/- Walk of the law PartsPairs. -/
import Derived.Test.YtpgpkgnljoedaaaGl
import Derived.Test.YtpgpkgnljoedaaaGz
import Derived.Test.YtpgpkgnljoedaaaOd
import Derived.Test.YtpgpkgnljoedaaaFw
import Derived.Test.YtpgpkgnljoedaaaLi
namespace Go.Proofs.Ytpgpkgnljoedaaa
open Go.RowKit
theorem Part.fal {l : List Int} (h : Part l) : Fal l := by
  refine List.pairwise_iff_getElem.2 (fun i j hi hj hij => ?_)
  have key : ∀ d i, i + d < l.length → l.getD (i + d) 0 ≤ l.getD i 0 := by
    intro d
    induction d with
    | zero => intro i _; exact Int.le_refl _
    | succ d ih =>
      intro i hd
      have h1 := (h.1 (i + (d + 1)) hd).2.2 (by omega)
      rw [show i + (d + 1) - 1 = i + d by omega] at h1
      have h2 := ih i (by omega)
      omega
  have := key (j - i) i (by omega)
  rw [show i + (j - i) = j by omega] at this
  rwa [List.getD_eq_getElem?_getD, List.getD_eq_getElem?_getD, List.getElem?_eq_getElem hi, List.getElem?_eq_getElem hj] at this
set_option maxRecDepth 100000 in
set_option maxHeartbeats 4000000 in
theorem Glaisher_no (v : Value) (l : List Int) (h : ¬ (Part l ∧ OddTo l l.length)) (w : World) (hv : Ints w v l) :
    Calls Try.prog 47 #[v] w fun e w' => e = .returned (.tuple #[.slice none 0 0, .int .i64 2]) ∧ w = w' := by
  obtain ⟨A, c, hvv⟩ : ∃ A c, v = .slice A l.length c := by obtain ⟨_, A, c, h, _⟩ := hv; exact ⟨A, c, h⟩
  by_cases hp : Part l
  · have HVY := Lib.hid (valid_yes v l hp w hv)
    have HCF := Lib.hid (show Calls Try.prog 76 #[v, .func (.func 77) #[] #[]] w (fun e w' => e = .returned (.bool true) ∧ w = w') from containsFunc_any v l hp false (by simp; exact fun ho => h ⟨hp, ho⟩) w hv)
    clear h hp hv
    subst hvv
    go_enter Try.func47, Try.ntmps47
    go_wp2
    go_step3
    go_wp2_with fail
    with_reducible refine HVY.out.mono ?_
    rintro e _ ⟨rfl, rfl⟩
    go_wp2_with fail
    with_reducible refine HCF.out.mono ?_
    rintro e _ ⟨rfl, rfl⟩
    clear HVY HCF
    go_wp2_with fail
    rw [Exit.noGoto_ret]
    go_ret2
    exact ⟨rfl, rfl⟩
  · have HVY := Lib.hid (valid_no v l hp w hv)
    clear h hp hv
    subst hvv
    go_enter Try.func47, Try.ntmps47
    go_wp2
    go_step3
    go_wp2_with fail
    with_reducible refine HVY.out.mono ?_
    rintro e _ ⟨rfl, rfl⟩
    clear HVY
    go_wp2_with fail
    rw [Exit.noGoto_ret]
    go_ret2
    exact ⟨rfl, rfl⟩
set_option maxRecDepth 100000 in
set_option maxHeartbeats 4000000 in
theorem Odds_no (v : Value) (l : List Int) (h : ¬ (Part l ∧ Dif l)) (w : World) (hv : Ints w v l) :
    Calls Try.prog 48 #[v] w fun e w' => e = .returned (.tuple #[.slice none 0 0, .int .i64 2]) ∧ Below w.heap.size w w' := by
  obtain ⟨A, c, hvv⟩ : ∃ A c, v = .slice A l.length c := by obtain ⟨_, A, c, h, _⟩ := hv; exact ⟨A, c, h⟩
  by_cases hp : Part l
  · have HVY := Lib.hid (valid_yes v l hp w hv)
    have HDN := Lib.hid (different_no v l (fun hd => h ⟨hp, hd⟩) w hv)
    clear h hp hv
    subst hvv
    go_enter Try.func48, Try.ntmps48
    go_wp2_with fail
    with_reducible refine HVY.out.mono ?_
    rintro e _ ⟨rfl, rfl⟩
    go_wp2_with fail
    with_reducible refine HDN.out.mono ?_
    rintro e w1 ⟨rfl, hb⟩
    have HB := Lib.hid hb
    clear HVY HDN hb
    go_wp2_with fail
    go_ret2
    exact ⟨rfl, HB.out⟩
  · have HVY := Lib.hid (valid_no v l hp w hv)
    clear h hp hv
    subst hvv
    go_enter Try.func48, Try.ntmps48
    go_wp2_with fail
    with_reducible refine HVY.out.mono ?_
    rintro e _ ⟨rfl, rfl⟩
    clear HVY
    go_wp2_with fail
    go_ret2
    exact ⟨rfl, Below.refl _ _⟩
theorem odds_len {l : List Int} (h : Small l) : (odds l).length ≤ 30 := by
  unfold odds
  rw [(srt_perm _).length_eq]
  have := take_flat_len h l.length
  rwa [List.take_length] at this
set_option maxRecDepth 100000 in
set_option maxHeartbeats 4000000 in
theorem pairs_none (v : Value) (l : List Int) (hp : ¬ Part l) (w : World) (hv : Ints w v l) :
    Calls Try.prog 13 #[v] w fun e w' => e = .returned (.bool true) ∧ Below w.heap.size w w' := by
  have HV := Lib.hid hv
  have HB0 := Lib.hid (Below.refl w.heap.size w)
  have HPA := Lib.hid hp
  obtain ⟨q, hq⟩ : ∃ q, q = l.take 34 := ⟨_, rfl⟩
  have HPT := Lib.hid (show ¬ Part q by rw [hq]; exact part_take hp)
  have hql : q.length ≤ 34 := by rw [hq, List.length_take]; omega
  have HQ := Lib.hid hq
  clear hp hq
  obtain ⟨A, c, hvv⟩ : ∃ A c, v = .slice A l.length c := by obtain ⟨_, A, c, h, _⟩ := hv; exact ⟨A, c, h⟩
  subst hvv
  clear hv
  go_enter Try.func13, Try.ntmps13
  go_wp2_with fail
  with_reducible refine (list_any _ l _ (HV.out.keep HB0.out)).mono ?_
  rintro e w1 ⟨va, rfl, ho, hb⟩
  have HS1 := Lib.hid hb
  have HB1 := Lib.hid (HB0.out.trans (hb.mono HB0.out.size))
  clear hb
  rw [← HQ.out] at ho
  have HI1 := Lib.hid (ho.ints (by omega))
  obtain ⟨Aa, ca, rfl⟩ := ho.form (by omega)
  clear ho
  go_wp2_with fail
  with_reducible refine (Glaisher_no _ q (fun hh => absurd hh.1 HPT.out) _ HI1.out).mono ?_
  rintro e _ ⟨rfl, rfl⟩
  go_wp2_with fail
  with_reducible refine (list_any _ l _ (HV.out.keep HB1.out)).mono ?_
  rintro e w2 ⟨va, rfl, ho, hb⟩
  have HS2 := Lib.hid hb
  have HB2 := Lib.hid (HB1.out.trans (hb.mono HB1.out.size))
  clear hb
  rw [← HQ.out] at ho
  have HI2 := Lib.hid (ho.ints (by omega))
  obtain ⟨Aa, ca, rfl⟩ := ho.form (by omega)
  clear ho
  go_wp2_with fail
  with_reducible refine (Odds_no _ q (fun hh => absurd hh.1 HPT.out) _ HI2.out).mono ?_
  rintro e w3 ⟨rfl, hb⟩
  have HS3 := Lib.hid hb
  have HB3 := Lib.hid (HB2.out.trans (hb.mono HB2.out.size))
  clear hb
  go_wp2_with fail
  with_reducible refine (rValid_no _ l HPA.out _ (HV.out.keep HB3.out)).mono ?_
  rintro e _ ⟨rfl, rfl⟩
  go_wp2_with fail
  with_reducible refine (rValid_no _ l HPA.out _ (HV.out.keep HB3.out)).mono ?_
  rintro e _ ⟨rfl, rfl⟩
  go_wp2_with fail
  with_reducible refine (awake_any _).mono ?_
  rintro e w4 ⟨rfl, hb⟩
  have HS4 := Lib.hid hb
  have HB4 := Lib.hid (HB3.out.trans (hb.mono HB3.out.size))
  clear hb
  go_wp2_with fail
  go_ret
  exact ⟨rfl, HB4.out⟩
set_option maxRecDepth 100000 in
set_option maxHeartbeats 4000000 in
theorem pairs_11 (v : Value) (l : List Int) (hp : Part l) (hod : OddTo l l.length) (hd : Dif l) (w : World) (hv : Ints w v l) :
    Calls Try.prog 13 #[v] w fun e w' => e = .returned (.bool true) ∧ Below w.heap.size w w' := by
  have HV := Lib.hid hv
  have HB0 := Lib.hid (Below.refl w.heap.size w)
  have hlen := hp.len
  have HS0 := Lib.hid hp.small
  have HPA := Lib.hid hp
  have HOD := Lib.hid hod
  have HDI := Lib.hid hd
  clear hp hod hd
  obtain ⟨A, c, hvv⟩ : ∃ A c, v = .slice A l.length c := by obtain ⟨_, A, c, h, _⟩ := hv; exact ⟨A, c, h⟩
  subst hvv
  clear hv
  go_enter Try.func13, Try.ntmps13
  go_wp2_with fail
  with_reducible refine (list_any _ l _ (HV.out.keep HB0.out)).mono ?_
  rintro e w1 ⟨va, rfl, ho, hb⟩
  have HS1 := Lib.hid hb
  have HB1 := Lib.hid (HB0.out.trans (hb.mono HB0.out.size))
  clear hb
  rw [HPA.out.take34] at ho
  have HI1 := Lib.hid (ho.ints (by omega))
  obtain ⟨Aa, ca, rfl⟩ := ho.form (by omega)
  clear ho
  go_wp2_with fail
  with_reducible refine (Glaisher_ok _ l HPA.out HOD.out _ HI1.out).mono ?_
  rintro e w2 ⟨va, m1, rfl, ho, hg, hs, hb⟩
  have HS2 := Lib.hid hb
  have HB2 := Lib.hid (HB1.out.trans (hb.mono HB1.out.size))
  clear hb
  have HG1 := Lib.hid hg
  have hlm := hs.len
  have HA := Lib.hid (ho.ints (by omega))
  obtain ⟨Aa, ca, rfl⟩ := ho.form (by omega)
  clear ho hg hs
  go_wp2_with fail
  with_reducible refine (list_any _ l _ (HV.out.keep HB2.out)).mono ?_
  rintro e w3 ⟨va, rfl, ho, hb⟩
  have HS3 := Lib.hid hb
  have HB3 := Lib.hid (HB2.out.trans (hb.mono HB2.out.size))
  clear hb
  rw [HPA.out.take34] at ho
  have HI3 := Lib.hid (ho.ints (by omega))
  obtain ⟨Aa, ca, rfl⟩ := ho.form (by omega)
  clear ho
  go_wp2_with fail
  with_reducible refine (Odds_ok _ l HPA.out HDI.out _ HI3.out).mono ?_
  rintro e w4 ⟨va, rfl, ho, hb⟩
  have HS4 := Lib.hid hb
  have HB4 := Lib.hid (HB3.out.trans (hb.mono HB3.out.size))
  clear hb
  have hol := odds_len HS0.out
  have HBI := Lib.hid (ho.ints (by omega))
  obtain ⟨Aa, ca, rfl⟩ := ho.form (by omega)
  clear ho
  go_wp2_with fail
  with_reducible refine (rValid_yes _ l HPA.out _ (HV.out.keep HB4.out)).mono ?_
  rintro e _ ⟨rfl, rfl⟩
  go_wp2_with fail
  with_reducible refine (rOdd_any _ l HPA.out true (by simp; exact HOD.out) _ (HV.out.keep HB4.out)).mono ?_
  rintro e _ ⟨rfl, rfl⟩
  go_wp2_with fail
  with_reducible refine (rGlaisher_any _ l HS0.out _ (HV.out.keep HB4.out)).mono ?_
  rintro e w5 ⟨va, m2, rfl, ho, hg, hs, hb⟩
  have HS5 := Lib.hid hb
  have HB5 := Lib.hid (HB4.out.trans (hb.mono HB4.out.size))
  clear hb
  rw [srt_of_fal HPA.out.fal] at hg
  have hmm := HG1.out.unique hg
  subst hmm
  have HC := Lib.hid (ho.ints (by omega))
  obtain ⟨Aa, ca, rfl⟩ := ho.form (by omega)
  clear ho hg hs
  go_wp2_with fail
  with_reducible refine (equal_yes _ _ m1 _ (((HA.out.keep HS3.out).keep HS4.out).keep HS5.out) HC.out).mono ?_
  rintro e w6 ⟨rfl, hb⟩
  have HS6 := Lib.hid hb
  have HB6 := Lib.hid (HB5.out.trans (hb.mono HB5.out.size))
  clear hb
  go_wp2_with fail
  with_reducible refine (rValid_yes _ l HPA.out _ (HV.out.keep HB6.out)).mono ?_
  rintro e _ ⟨rfl, rfl⟩
  go_wp2_with fail
  with_reducible refine (rDifferent_any _ l true (by simp; exact HDI.out) _ (HV.out.keep HB6.out)).mono ?_
  rintro e _ ⟨rfl, rfl⟩
  go_wp2_with fail
  with_reducible refine (rOdds_any _ l HS0.out _ (HV.out.keep HB6.out)).mono ?_
  rintro e w7 ⟨va, rfl, ho, hl2, hb⟩
  have HS7 := Lib.hid hb
  have HB7 := Lib.hid (HB6.out.trans (hb.mono HB6.out.size))
  clear hb
  have HC2 := Lib.hid (ho.ints (by omega))
  obtain ⟨Aa, ca, rfl⟩ := ho.form (by omega)
  clear ho hl2
  go_wp2_with fail
  with_reducible refine (equal_yes _ _ (odds l) _ (((HBI.out.keep HS5.out).keep HS6.out).keep HS7.out) HC2.out).mono ?_
  rintro e w8 ⟨rfl, hb⟩
  have HS8 := Lib.hid hb
  have HB8 := Lib.hid (HB7.out.trans (hb.mono HB7.out.size))
  clear hb
  go_wp2_with fail
  with_reducible refine (awake_any _).mono ?_
  rintro e w9 ⟨rfl, hb⟩
  have HS9 := Lib.hid hb
  have HB9 := Lib.hid (HB8.out.trans (hb.mono HB8.out.size))
  clear hb
  go_wp2_with fail
  go_ret
  exact ⟨rfl, HB9.out⟩
set_option maxRecDepth 100000 in
set_option maxHeartbeats 4000000 in
theorem pairs_10 (v : Value) (l : List Int) (hp : Part l) (hod : OddTo l l.length) (hd : ¬ Dif l) (w : World) (hv : Ints w v l) :
    Calls Try.prog 13 #[v] w fun e w' => e = .returned (.bool true) ∧ Below w.heap.size w w' := by
  have HV := Lib.hid hv
  have HB0 := Lib.hid (Below.refl w.heap.size w)
  have hlen := hp.len
  have HS0 := Lib.hid hp.small
  have HPA := Lib.hid hp
  have HOD := Lib.hid hod
  have HDI := Lib.hid hd
  clear hp hod hd
  obtain ⟨A, c, hvv⟩ : ∃ A c, v = .slice A l.length c := by obtain ⟨_, A, c, h, _⟩ := hv; exact ⟨A, c, h⟩
  subst hvv
  clear hv
  go_enter Try.func13, Try.ntmps13
  go_wp2_with fail
  with_reducible refine (list_any _ l _ (HV.out.keep HB0.out)).mono ?_
  rintro e w1 ⟨va, rfl, ho, hb⟩
  have HS1 := Lib.hid hb
  have HB1 := Lib.hid (HB0.out.trans (hb.mono HB0.out.size))
  clear hb
  rw [HPA.out.take34] at ho
  have HI1 := Lib.hid (ho.ints (by omega))
  obtain ⟨Aa, ca, rfl⟩ := ho.form (by omega)
  clear ho
  go_wp2_with fail
  with_reducible refine (Glaisher_ok _ l HPA.out HOD.out _ HI1.out).mono ?_
  rintro e w2 ⟨va, m1, rfl, ho, hg, hs, hb⟩
  have HS2 := Lib.hid hb
  have HB2 := Lib.hid (HB1.out.trans (hb.mono HB1.out.size))
  clear hb
  have HG1 := Lib.hid hg
  have hlm := hs.len
  have HA := Lib.hid (ho.ints (by omega))
  obtain ⟨Aa, ca, rfl⟩ := ho.form (by omega)
  clear ho hg hs
  go_wp2_with fail
  with_reducible refine (list_any _ l _ (HV.out.keep HB2.out)).mono ?_
  rintro e w3 ⟨va, rfl, ho, hb⟩
  have HS3 := Lib.hid hb
  have HB3 := Lib.hid (HB2.out.trans (hb.mono HB2.out.size))
  clear hb
  rw [HPA.out.take34] at ho
  have HI3 := Lib.hid (ho.ints (by omega))
  obtain ⟨Aa, ca, rfl⟩ := ho.form (by omega)
  clear ho
  go_wp2_with fail
  with_reducible refine (Odds_no _ l (fun hh => absurd hh.2 HDI.out) _ HI3.out).mono ?_
  rintro e w4 ⟨rfl, hb⟩
  have HS4 := Lib.hid hb
  have HB4 := Lib.hid (HB3.out.trans (hb.mono HB3.out.size))
  clear hb
  go_wp2_with fail
  with_reducible refine (rValid_yes _ l HPA.out _ (HV.out.keep HB4.out)).mono ?_
  rintro e _ ⟨rfl, rfl⟩
  go_wp2_with fail
  with_reducible refine (rOdd_any _ l HPA.out true (by simp; exact HOD.out) _ (HV.out.keep HB4.out)).mono ?_
  rintro e _ ⟨rfl, rfl⟩
  go_wp2_with fail
  with_reducible refine (rGlaisher_any _ l HS0.out _ (HV.out.keep HB4.out)).mono ?_
  rintro e w5 ⟨va, m2, rfl, ho, hg, hs, hb⟩
  have HS5 := Lib.hid hb
  have HB5 := Lib.hid (HB4.out.trans (hb.mono HB4.out.size))
  clear hb
  rw [srt_of_fal HPA.out.fal] at hg
  have hmm := HG1.out.unique hg
  subst hmm
  have HC := Lib.hid (ho.ints (by omega))
  obtain ⟨Aa, ca, rfl⟩ := ho.form (by omega)
  clear ho hg hs
  go_wp2_with fail
  with_reducible refine (equal_yes _ _ m1 _ (((HA.out.keep HS3.out).keep HS4.out).keep HS5.out) HC.out).mono ?_
  rintro e w6 ⟨rfl, hb⟩
  have HS6 := Lib.hid hb
  have HB6 := Lib.hid (HB5.out.trans (hb.mono HB5.out.size))
  clear hb
  go_wp2_with fail
  with_reducible refine (rValid_yes _ l HPA.out _ (HV.out.keep HB6.out)).mono ?_
  rintro e _ ⟨rfl, rfl⟩
  go_wp2_with fail
  with_reducible refine (rDifferent_any _ l false (by simp; exact HDI.out) _ (HV.out.keep HB6.out)).mono ?_
  rintro e _ ⟨rfl, rfl⟩
  go_wp2_with fail
  with_reducible refine (awake_any _).mono ?_
  rintro e w7 ⟨rfl, hb⟩
  have HS7 := Lib.hid hb
  have HB7 := Lib.hid (HB6.out.trans (hb.mono HB6.out.size))
  clear hb
  go_wp2_with fail
  go_ret
  exact ⟨rfl, HB7.out⟩
set_option maxRecDepth 100000 in
set_option maxHeartbeats 4000000 in
theorem pairs_01 (v : Value) (l : List Int) (hp : Part l) (hod : ¬ OddTo l l.length) (hd : Dif l) (w : World) (hv : Ints w v l) :
    Calls Try.prog 13 #[v] w fun e w' => e = .returned (.bool true) ∧ Below w.heap.size w w' := by
  have HV := Lib.hid hv
  have HB0 := Lib.hid (Below.refl w.heap.size w)
  have hlen := hp.len
  have HS0 := Lib.hid hp.small
  have HPA := Lib.hid hp
  have HOD := Lib.hid hod
  have HDI := Lib.hid hd
  clear hp hod hd
  obtain ⟨A, c, hvv⟩ : ∃ A c, v = .slice A l.length c := by obtain ⟨_, A, c, h, _⟩ := hv; exact ⟨A, c, h⟩
  subst hvv
  clear hv
  go_enter Try.func13, Try.ntmps13
  go_wp2_with fail
  with_reducible refine (list_any _ l _ (HV.out.keep HB0.out)).mono ?_
  rintro e w1 ⟨va, rfl, ho, hb⟩
  have HS1 := Lib.hid hb
  have HB1 := Lib.hid (HB0.out.trans (hb.mono HB0.out.size))
  clear hb
  rw [HPA.out.take34] at ho
  have HI1 := Lib.hid (ho.ints (by omega))
  obtain ⟨Aa, ca, rfl⟩ := ho.form (by omega)
  clear ho
  go_wp2_with fail
  with_reducible refine (Glaisher_no _ l (fun hh => absurd hh.2 HOD.out) _ HI1.out).mono ?_
  rintro e _ ⟨rfl, rfl⟩
  go_wp2_with fail
  with_reducible refine (list_any _ l _ (HV.out.keep HB1.out)).mono ?_
  rintro e w2 ⟨va, rfl, ho, hb⟩
  have HS2 := Lib.hid hb
  have HB2 := Lib.hid (HB1.out.trans (hb.mono HB1.out.size))
  clear hb
  rw [HPA.out.take34] at ho
  have HI2 := Lib.hid (ho.ints (by omega))
  obtain ⟨Aa, ca, rfl⟩ := ho.form (by omega)
  clear ho
  go_wp2_with fail
  with_reducible refine (Odds_ok _ l HPA.out HDI.out _ HI2.out).mono ?_
  rintro e w3 ⟨va, rfl, ho, hb⟩
  have HS3 := Lib.hid hb
  have HB3 := Lib.hid (HB2.out.trans (hb.mono HB2.out.size))
  clear hb
  have hol := odds_len HS0.out
  have HBI := Lib.hid (ho.ints (by omega))
  obtain ⟨Aa, ca, rfl⟩ := ho.form (by omega)
  clear ho
  go_wp2_with fail
  with_reducible refine (rValid_yes _ l HPA.out _ (HV.out.keep HB3.out)).mono ?_
  rintro e _ ⟨rfl, rfl⟩
  go_wp2_with fail
  with_reducible refine (rOdd_any _ l HPA.out false (by simp; exact HOD.out) _ (HV.out.keep HB3.out)).mono ?_
  rintro e _ ⟨rfl, rfl⟩
  go_wp2_with fail
  with_reducible refine (rValid_yes _ l HPA.out _ (HV.out.keep HB3.out)).mono ?_
  rintro e _ ⟨rfl, rfl⟩
  go_wp2_with fail
  with_reducible refine (rDifferent_any _ l true (by simp; exact HDI.out) _ (HV.out.keep HB3.out)).mono ?_
  rintro e _ ⟨rfl, rfl⟩
  go_wp2_with fail
  with_reducible refine (rOdds_any _ l HS0.out _ (HV.out.keep HB3.out)).mono ?_
  rintro e w4 ⟨va, rfl, ho, hl2, hb⟩
  have HS4 := Lib.hid hb
  have HB4 := Lib.hid (HB3.out.trans (hb.mono HB3.out.size))
  clear hb
  have HC2 := Lib.hid (ho.ints (by omega))
  obtain ⟨Aa, ca, rfl⟩ := ho.form (by omega)
  clear ho hl2
  go_wp2_with fail
  with_reducible refine (equal_yes _ _ (odds l) _ (HBI.out.keep HS4.out) HC2.out).mono ?_
  rintro e w5 ⟨rfl, hb⟩
  have HS5 := Lib.hid hb
  have HB5 := Lib.hid (HB4.out.trans (hb.mono HB4.out.size))
  clear hb
  go_wp2_with fail
  with_reducible refine (awake_any _).mono ?_
  rintro e w6 ⟨rfl, hb⟩
  have HS6 := Lib.hid hb
  have HB6 := Lib.hid (HB5.out.trans (hb.mono HB5.out.size))
  clear hb
  go_wp2_with fail
  go_ret
  exact ⟨rfl, HB6.out⟩
set_option maxRecDepth 100000 in
set_option maxHeartbeats 4000000 in
theorem pairs_00 (v : Value) (l : List Int) (hp : Part l) (hod : ¬ OddTo l l.length) (hd : ¬ Dif l) (w : World) (hv : Ints w v l) :
    Calls Try.prog 13 #[v] w fun e w' => e = .returned (.bool true) ∧ Below w.heap.size w w' := by
  have HV := Lib.hid hv
  have HB0 := Lib.hid (Below.refl w.heap.size w)
  have hlen := hp.len
  have HS0 := Lib.hid hp.small
  have HPA := Lib.hid hp
  have HOD := Lib.hid hod
  have HDI := Lib.hid hd
  clear hp hod hd
  obtain ⟨A, c, hvv⟩ : ∃ A c, v = .slice A l.length c := by obtain ⟨_, A, c, h, _⟩ := hv; exact ⟨A, c, h⟩
  subst hvv
  clear hv
  go_enter Try.func13, Try.ntmps13
  go_wp2_with fail
  with_reducible refine (list_any _ l _ (HV.out.keep HB0.out)).mono ?_
  rintro e w1 ⟨va, rfl, ho, hb⟩
  have HS1 := Lib.hid hb
  have HB1 := Lib.hid (HB0.out.trans (hb.mono HB0.out.size))
  clear hb
  rw [HPA.out.take34] at ho
  have HI1 := Lib.hid (ho.ints (by omega))
  obtain ⟨Aa, ca, rfl⟩ := ho.form (by omega)
  clear ho
  go_wp2_with fail
  with_reducible refine (Glaisher_no _ l (fun hh => absurd hh.2 HOD.out) _ HI1.out).mono ?_
  rintro e _ ⟨rfl, rfl⟩
  go_wp2_with fail
  with_reducible refine (list_any _ l _ (HV.out.keep HB1.out)).mono ?_
  rintro e w2 ⟨va, rfl, ho, hb⟩
  have HS2 := Lib.hid hb
  have HB2 := Lib.hid (HB1.out.trans (hb.mono HB1.out.size))
  clear hb
  rw [HPA.out.take34] at ho
  have HI2 := Lib.hid (ho.ints (by omega))
  obtain ⟨Aa, ca, rfl⟩ := ho.form (by omega)
  clear ho
  go_wp2_with fail
  with_reducible refine (Odds_no _ l (fun hh => absurd hh.2 HDI.out) _ HI2.out).mono ?_
  rintro e w3 ⟨rfl, hb⟩
  have HS3 := Lib.hid hb
  have HB3 := Lib.hid (HB2.out.trans (hb.mono HB2.out.size))
  clear hb
  go_wp2_with fail
  with_reducible refine (rValid_yes _ l HPA.out _ (HV.out.keep HB3.out)).mono ?_
  rintro e _ ⟨rfl, rfl⟩
  go_wp2_with fail
  with_reducible refine (rOdd_any _ l HPA.out false (by simp; exact HOD.out) _ (HV.out.keep HB3.out)).mono ?_
  rintro e _ ⟨rfl, rfl⟩
  go_wp2_with fail
  with_reducible refine (rValid_yes _ l HPA.out _ (HV.out.keep HB3.out)).mono ?_
  rintro e _ ⟨rfl, rfl⟩
  go_wp2_with fail
  with_reducible refine (rDifferent_any _ l false (by simp; exact HDI.out) _ (HV.out.keep HB3.out)).mono ?_
  rintro e _ ⟨rfl, rfl⟩
  go_wp2_with fail
  with_reducible refine (awake_any _).mono ?_
  rintro e w4 ⟨rfl, hb⟩
  have HS4 := Lib.hid hb
  have HB4 := Lib.hid (HB3.out.trans (hb.mono HB3.out.size))
  clear hb
  go_wp2_with fail
  go_ret
  exact ⟨rfl, HB4.out⟩
theorem partsPairs_walk (w : World) (v : Value) (l : List Int) (hv : Ints w v l) (_ : ∀ n ∈ l, -9223372036854775808 ≤ n ∧ n ≤ 9223372036854775807) :
    Calls Try.prog 13 #[v] w fun e w' => e = .returned (.bool true) ∧ Below w.heap.size w w' := by
  by_cases hp : Part l
  · by_cases ho : OddTo l l.length
    · by_cases hd : Dif l
      · exact pairs_11 v l hp ho hd w hv
      · exact pairs_10 v l hp ho hd w hv
    · by_cases hd : Dif l
      · exact pairs_01 v l hp ho hd w hv
      · exact pairs_00 v l hp ho hd w hv
  · exact pairs_none v l hp w hv
end Go.Proofs.Ytpgpkgnljoedaaa
