/- Walk of the law PartsCores. -/
import Derived.Test.YtpgpkgnljoedaaaYx
import Derived.Test.YtpgpkgnljoedaaaLi
namespace Go.Proofs.Ytpgpkgnljoedaaa
open Go.RowKit
set_option maxRecDepth 100000 in
set_option maxHeartbeats 4000000 in
theorem cores_yes (v : Value) (l : List Int) (hp : Part l) (p : Nat) (h1 : 1 ≤ p) (h10 : p ≤ 10) (w : World) (hv : Ints w v l) :
    Calls Try.prog 15 #[v, .int .i64 p] w fun e w' => e = .returned (.bool true) ∧ Below w.heap.size w w' := by
  have HV := Lib.hid hv
  have HB0 := Lib.hid (Below.refl w.heap.size w)
  have hlen := hp.len
  have HPA := Lib.hid hp
  clear hp
  have d1 : decide ((p : Int) < 1) = false := decide_eq_false (by omega)
  have d2 : decide ((10 : Int) < p) = false := decide_eq_false (by omega)
  obtain ⟨A, c, hvv⟩ : ∃ A c, v = .slice A l.length c := by obtain ⟨_, A, c, h, _⟩ := hv; exact ⟨A, c, h⟩
  subst hvv
  clear hv
  go_enter Try.func15, Try.ntmps15
  go_wp2_with fail
  with_reducible refine (list_any _ l _ (HV.out.keep HB0.out)).mono ?_
  rintro e w1 ⟨va, rfl, ho, hb⟩
  have HB1 := Lib.hid (HB0.out.trans (hb.mono HB0.out.size))
  clear hb
  rw [HPA.out.take34] at ho
  have HI1 := Lib.hid (ho.ints (by omega))
  obtain ⟨Aa, ca, rfl⟩ := ho.form (by omega)
  clear ho
  go_wp2_with fail
  with_reducible refine (Rims_yes _ l HPA.out p h1 h10 _ HI1.out).mono ?_
  rintro e w2 ⟨vr, rfl, hil, hb⟩
  have HB2 := Lib.hid (HB1.out.trans (hb.mono HB1.out.size))
  have HR := Lib.hid hil
  obtain ⟨Ar, cr, rfl⟩ := hil.form
  clear hb hil
  go_wp2_with fail
  with_reducible refine (list_any _ l _ (HV.out.keep HB2.out)).mono ?_
  rintro e w3 ⟨va, rfl, ho, hb⟩
  have HS3 := Lib.hid hb
  have HB3 := Lib.hid (HB2.out.trans (hb.mono HB2.out.size))
  clear hb
  rw [HPA.out.take34] at ho
  have HI3 := Lib.hid (ho.ints (by omega))
  obtain ⟨Ac, cc, rfl⟩ := ho.form (by omega)
  clear ho
  go_wp2_with fail
  with_reducible refine (Core_yes _ l HPA.out p h1 h10 _ HI3.out).mono ?_
  rintro e w4 ⟨c1, vc, rfl, hcr, hci, hb⟩
  have HC1 := Lib.hid hcr
  have HCI := Lib.hid hci
  have HS4 := Lib.hid hb
  have HB4 := Lib.hid (HB3.out.trans (hb.mono HB3.out.size))
  obtain ⟨Ad, cd, hvd⟩ : ∃ A c, vc = .slice A c1.length c := by obtain ⟨_, A, c, h, _⟩ := hci; exact ⟨A, c, h⟩
  subst hvd
  clear hcr hci hb
  go_wp2_with fail
  with_reducible refine (rValid_yes _ l HPA.out _ (HV.out.keep HB4.out)).mono ?_
  rintro e _ ⟨rfl, rfl⟩
  go_wp2_with fail
  with_reducible refine (rRims_any _ l HPA.out p h1 h10 _ (HV.out.keep HB4.out)).mono ?_
  rintro e w5 ⟨v5, rfl, hil, _, hb⟩
  have HS5 := Lib.hid hb
  have HB5 := Lib.hid (HB4.out.trans (hb.mono HB4.out.size))
  have HR5 := Lib.hid hil
  obtain ⟨A5, c5, rfl⟩ := hil.form
  clear hil hb
  have HRK := Lib.hid (((HR.out.keep HS3.out).keep HS4.out).keep HS5.out)
  go_wp2_with fail
  with_reducible refine (same_yes _ _ _ _ HRK.out HR5.out).mono ?_
  rintro e w6 ⟨rfl, hb⟩
  have HS6 := Lib.hid hb
  have HB6 := Lib.hid (HB5.out.trans (hb.mono HB5.out.size))
  clear hb
  go_wp2_with fail
  with_reducible refine (rCore_any _ l HPA.out p h1 h10 _ (HV.out.keep HB6.out)).mono ?_
  rintro e w7 ⟨c2, v7, rfl, hcr, hci, hb⟩
  have hcc := hcr.unique HC1.out
  subst hcc
  have HC7 := Lib.hid hci
  have HS7 := Lib.hid hb
  have HB7 := Lib.hid (HB6.out.trans (hb.mono HB6.out.size))
  obtain ⟨Ae, ce, hve⟩ : ∃ A c, v7 = .slice A c2.length c := by obtain ⟨_, A, c, h, _⟩ := hci; exact ⟨A, c, h⟩
  subst hve
  clear hcr hci hb
  have HCK := Lib.hid (((HCI.out.keep HS5.out).keep HS6.out).keep HS7.out)
  go_wp2_with fail
  with_reducible refine (equal_yes _ _ c2 _ HCK.out HC7.out).mono ?_
  rintro e w8 ⟨rfl, hb⟩
  have HB8 := Lib.hid (HB7.out.trans (hb.mono HB7.out.size))
  clear hb
  go_wp2_with fail
  with_reducible refine (awake_any _).mono ?_
  rintro e wz ⟨rfl, hbz⟩
  go_wp2_with fail
  go_ret
  exact ⟨rfl, HB8.out.trans (hbz.mono HB8.out.size)⟩
set_option maxRecDepth 100000 in
set_option maxHeartbeats 4000000 in
theorem cores_no0 (v : Value) (l : List Int) (hp : ¬ Part l) (p : Int) (w : World) (hv : Ints w v l) :
    Calls Try.prog 15 #[v, .int .i64 p] w fun e w' => e = .returned (.bool true) ∧ Below w.heap.size w w' := by
  have HV := Lib.hid hv
  have HB0 := Lib.hid (Below.refl w.heap.size w)
  have HPA := Lib.hid hp
  have HBP := Lib.hid (show badP (l.take 34) p from .inl (part_take hp))
  clear hp
  obtain ⟨q, hq34⟩ : ∃ q, q = l.take 34 := ⟨_, rfl⟩
  have hql : q.length ≤ 34 := by rw [hq34, List.length_take]; omega
  rw [← hq34] at HBP
  have HQE := Lib.hid hq34
  clear hq34
  obtain ⟨A, c, hvv⟩ : ∃ A c, v = .slice A l.length c := by obtain ⟨_, A, c, h, _⟩ := hv; exact ⟨A, c, h⟩
  subst hvv
  clear hv
  go_enter Try.func15, Try.ntmps15
  go_wp2_with fail
  with_reducible refine (list_any _ l _ (HV.out.keep HB0.out)).mono ?_
  rintro e w1 ⟨va, rfl, ho, hb⟩
  have HB1 := Lib.hid (HB0.out.trans (hb.mono HB0.out.size))
  clear hb
  rw [← HQE.out] at ho
  have HI1 := Lib.hid (ho.ints (by omega))
  obtain ⟨Aa, ca, rfl⟩ := ho.form (by omega)
  clear ho
  go_wp2_with fail
  with_reducible refine (Rims_no _ _ p HBP.out _ HI1.out).mono ?_
  rintro e _ ⟨rfl, rfl⟩
  go_wp2_with fail
  with_reducible refine (list_any _ l _ (HV.out.keep HB1.out)).mono ?_
  rintro e w3 ⟨va, rfl, ho, hb⟩
  have HB3 := Lib.hid (HB1.out.trans (hb.mono HB1.out.size))
  clear hb
  rw [← HQE.out] at ho
  have HI3 := Lib.hid (ho.ints (by omega))
  obtain ⟨Ac, cc, rfl⟩ := ho.form (by omega)
  clear ho
  go_wp2_with fail
  with_reducible refine (Core_no _ _ p HBP.out _ HI3.out).mono ?_
  rintro e _ ⟨rfl, rfl⟩
  go_wp2_with fail
  with_reducible refine (rValid_no _ l HPA.out _ (HV.out.keep HB3.out)).mono ?_
  rintro e _ ⟨rfl, rfl⟩
  go_wp2_with fail
  with_reducible refine (awake_any _).mono ?_
  rintro e wz ⟨rfl, hbz⟩
  go_wp2_with fail
  go_ret
  exact ⟨rfl, HB3.out.trans (hbz.mono HB3.out.size)⟩
set_option maxRecDepth 100000 in
set_option maxHeartbeats 4000000 in
theorem cores_no1 (v : Value) (l : List Int) (hp : Part l) (p : Int) (hq : p < 1) (w : World) (hv : Ints w v l) :
    Calls Try.prog 15 #[v, .int .i64 p] w fun e w' => e = .returned (.bool true) ∧ Below w.heap.size w w' := by
  have HV := Lib.hid hv
  have HB0 := Lib.hid (Below.refl w.heap.size w)
  have HPA := Lib.hid hp
  have HBP := Lib.hid (show badP (l.take 34) p from .inr (.inl hq))
  have d1 : decide (p < 1) = true := decide_eq_true hq
  clear hp hq
  obtain ⟨q, hq34⟩ : ∃ q, q = l.take 34 := ⟨_, rfl⟩
  have hql : q.length ≤ 34 := by rw [hq34, List.length_take]; omega
  rw [← hq34] at HBP
  have HQE := Lib.hid hq34
  clear hq34
  obtain ⟨A, c, hvv⟩ : ∃ A c, v = .slice A l.length c := by obtain ⟨_, A, c, h, _⟩ := hv; exact ⟨A, c, h⟩
  subst hvv
  clear hv
  go_enter Try.func15, Try.ntmps15
  go_wp2_with fail
  with_reducible refine (list_any _ l _ (HV.out.keep HB0.out)).mono ?_
  rintro e w1 ⟨va, rfl, ho, hb⟩
  have HB1 := Lib.hid (HB0.out.trans (hb.mono HB0.out.size))
  clear hb
  rw [← HQE.out] at ho
  have HI1 := Lib.hid (ho.ints (by omega))
  obtain ⟨Aa, ca, rfl⟩ := ho.form (by omega)
  clear ho
  go_wp2_with fail
  with_reducible refine (Rims_no _ _ p HBP.out _ HI1.out).mono ?_
  rintro e _ ⟨rfl, rfl⟩
  go_wp2_with fail
  with_reducible refine (list_any _ l _ (HV.out.keep HB1.out)).mono ?_
  rintro e w3 ⟨va, rfl, ho, hb⟩
  have HB3 := Lib.hid (HB1.out.trans (hb.mono HB1.out.size))
  clear hb
  rw [← HQE.out] at ho
  have HI3 := Lib.hid (ho.ints (by omega))
  obtain ⟨Ac, cc, rfl⟩ := ho.form (by omega)
  clear ho
  go_wp2_with fail
  with_reducible refine (Core_no _ _ p HBP.out _ HI3.out).mono ?_
  rintro e _ ⟨rfl, rfl⟩
  go_wp2_with fail
  with_reducible refine (rValid_yes _ l HPA.out _ (HV.out.keep HB3.out)).mono ?_
  rintro e _ ⟨rfl, rfl⟩
  go_wp2_with fail
  with_reducible refine (awake_any _).mono ?_
  rintro e wz ⟨rfl, hbz⟩
  go_wp2_with fail
  go_ret
  exact ⟨rfl, HB3.out.trans (hbz.mono HB3.out.size)⟩
set_option maxRecDepth 100000 in
set_option maxHeartbeats 4000000 in
theorem cores_no2 (v : Value) (l : List Int) (hp : Part l) (p : Int) (hq : 10 < p) (w : World) (hv : Ints w v l) :
    Calls Try.prog 15 #[v, .int .i64 p] w fun e w' => e = .returned (.bool true) ∧ Below w.heap.size w w' := by
  have HV := Lib.hid hv
  have HB0 := Lib.hid (Below.refl w.heap.size w)
  have HPA := Lib.hid hp
  have HBP := Lib.hid (show badP (l.take 34) p from .inr (.inr hq))
  have d1 : decide (p < 1) = false := decide_eq_false (by omega)
  have d2 : decide (10 < p) = true := decide_eq_true hq
  clear hp hq
  obtain ⟨q, hq34⟩ : ∃ q, q = l.take 34 := ⟨_, rfl⟩
  have hql : q.length ≤ 34 := by rw [hq34, List.length_take]; omega
  rw [← hq34] at HBP
  have HQE := Lib.hid hq34
  clear hq34
  obtain ⟨A, c, hvv⟩ : ∃ A c, v = .slice A l.length c := by obtain ⟨_, A, c, h, _⟩ := hv; exact ⟨A, c, h⟩
  subst hvv
  clear hv
  go_enter Try.func15, Try.ntmps15
  go_wp2_with fail
  with_reducible refine (list_any _ l _ (HV.out.keep HB0.out)).mono ?_
  rintro e w1 ⟨va, rfl, ho, hb⟩
  have HB1 := Lib.hid (HB0.out.trans (hb.mono HB0.out.size))
  clear hb
  rw [← HQE.out] at ho
  have HI1 := Lib.hid (ho.ints (by omega))
  obtain ⟨Aa, ca, rfl⟩ := ho.form (by omega)
  clear ho
  go_wp2_with fail
  with_reducible refine (Rims_no _ _ p HBP.out _ HI1.out).mono ?_
  rintro e _ ⟨rfl, rfl⟩
  go_wp2_with fail
  with_reducible refine (list_any _ l _ (HV.out.keep HB1.out)).mono ?_
  rintro e w3 ⟨va, rfl, ho, hb⟩
  have HB3 := Lib.hid (HB1.out.trans (hb.mono HB1.out.size))
  clear hb
  rw [← HQE.out] at ho
  have HI3 := Lib.hid (ho.ints (by omega))
  obtain ⟨Ac, cc, rfl⟩ := ho.form (by omega)
  clear ho
  go_wp2_with fail
  with_reducible refine (Core_no _ _ p HBP.out _ HI3.out).mono ?_
  rintro e _ ⟨rfl, rfl⟩
  go_wp2_with fail
  with_reducible refine (rValid_yes _ l HPA.out _ (HV.out.keep HB3.out)).mono ?_
  rintro e _ ⟨rfl, rfl⟩
  go_wp2_with fail
  with_reducible refine (awake_any _).mono ?_
  rintro e wz ⟨rfl, hbz⟩
  go_wp2_with fail
  go_ret
  exact ⟨rfl, HB3.out.trans (hbz.mono HB3.out.size)⟩
theorem partsCores_walk (w : World) (v : Value) (l : List Int) (hv : Ints w v l) (_ : ∀ n ∈ l, -9223372036854775808 ≤ n ∧ n ≤ 9223372036854775807) (p : Int) (_ : -9223372036854775808 ≤ p ∧ p ≤ 9223372036854775807) :
    Calls Try.prog 15 #[v, .int .i64 p] w fun e w' => e = .returned (.bool true) ∧ Below w.heap.size w w' := by
  by_cases hp : Part l
  · by_cases h1 : p < 1
    · exact cores_no1 v l hp p h1 w hv
    · by_cases h2 : 10 < p
      · exact cores_no2 v l hp p h2 w hv
      · obtain ⟨k, rfl⟩ : ∃ k : Nat, p = k := ⟨p.toNat, by omega⟩
        exact cores_yes v l hp k (by omega) (by omega) w hv
  · exact cores_no0 v l hp p w hv
end Go.Proofs.Ytpgpkgnljoedaaa
