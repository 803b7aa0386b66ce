/- Walk of the law PartsCored. -/
import Derived.Test.YtpgpkgnljoedaaaYx
import Derived.Test.YtpgpkgnljoedaaaLi
import Derived.Test.YtpgpkgnljoedaaaCe
import Derived.Test.YtpgpkgnljoedaaaCx
namespace Go.Proofs.Ytpgpkgnljoedaaa
open Go.RowKit
theorem bad_cut {l : List Int} {p : Int} (h : badP l p) : badP (l.take 34) p := by
  rcases h with h | h
  · exact .inl (part_take h)
  · exact .inr h
set_option maxRecDepth 100000 in
set_option maxHeartbeats 4000000 in
theorem cored_no (v : Value) (l : List Int) (p : Int) (hp : badP l p) (w : World) (hv : Ints w v l) :
    Calls Try.prog 16 #[v, .int .i64 p] w fun e w' => e = .returned (.bool true) ∧ Below w.heap.size w w' := by
  have HV := Lib.hid hv
  have HB0 := Lib.hid (Below.refl w.heap.size w)
  have HBP := Lib.hid (show badP (l.take 34) p from bad_cut hp)
  clear hp
  obtain ⟨q, hq34⟩ : ∃ q, q = l.take 34 := ⟨_, rfl⟩
  have hql : q.length ≤ 34 := by rw [hq34, List.length_take]; omega
  rw [← hq34] at HBP
  have HQE := Lib.hid hq34
  clear hq34
  obtain ⟨A, c, hvv⟩ : ∃ A c, v = .slice A l.length c := by obtain ⟨_, A, c, h, _⟩ := hv; exact ⟨A, c, h⟩
  subst hvv
  clear hv
  go_enter Try.func16, Try.ntmps16
  go_wp2_with fail
  with_reducible refine (list_any _ l _ (HV.out.keep HB0.out)).mono ?_
  rintro e w1 ⟨va, rfl, ho, hb⟩
  have HB1 := Lib.hid (HB0.out.trans (hb.mono HB0.out.size))
  clear hb
  rw [← HQE.out] at ho
  have HI1 := Lib.hid (ho.ints (by omega))
  obtain ⟨Aa, ca, rfl⟩ := ho.form (by omega)
  clear ho
  go_wp2_with fail
  with_reducible refine (Core_no _ _ p HBP.out _ HI1.out).mono ?_
  rintro e _ ⟨rfl, rfl⟩
  go_wp2_with fail
  with_reducible refine (list_any _ l _ (HV.out.keep HB1.out)).mono ?_
  rintro e w3 ⟨va, rfl, ho, hb⟩
  have HB3 := Lib.hid (HB1.out.trans (hb.mono HB1.out.size))
  clear hb
  rw [← HQE.out] at ho
  have HI3 := Lib.hid (ho.ints (by omega))
  obtain ⟨Ac, cc, rfl⟩ := ho.form (by omega)
  clear ho
  go_wp2_with fail
  with_reducible refine (Rims_no _ _ p HBP.out _ HI3.out).mono ?_
  rintro e _ ⟨rfl, rfl⟩
  go_wp2_with fail
  with_reducible refine (awake_any _).mono ?_
  rintro e wz ⟨rfl, hbz⟩
  go_wp2_with fail
  go_ret
  exact ⟨rfl, HB3.out.trans (hbz.mono HB3.out.size)⟩
set_option maxRecDepth 100000 in
set_option maxHeartbeats 8000000 in
theorem cored_yes (v : Value) (l : List Int) (hp : Part l) (p : Nat) (h1 : 1 ≤ p) (h10 : p ≤ 10) (w : World) (hv : Ints w v l) :
    Calls Try.prog 16 #[v, .int .i64 p] w fun e w' => e = .returned (.bool true) ∧ Below w.heap.size w w' := by
  have HV := Lib.hid hv
  have HB0 := Lib.hid (Below.refl w.heap.size w)
  have hlen := hp.len
  have HPA := Lib.hid hp
  clear hp
  have hpi : (1 : Int) ≤ p := by omega
  have d1 : decide ((p : Int) < 1) = false := decide_eq_false (by omega)
  have d2 : decide ((10 : Int) < p) = false := decide_eq_false (by omega)
  obtain ⟨A, c, hvv⟩ : ∃ A c, v = .slice A l.length c := by obtain ⟨_, A, c, h, _⟩ := hv; exact ⟨A, c, h⟩
  subst hvv
  clear hv
  go_enter Try.func16, Try.ntmps16
  go_wp2_with fail
  with_reducible refine (list_any _ l _ (HV.out.keep HB0.out)).mono ?_
  rintro e w1 ⟨va, rfl, ho, hb⟩
  have HS1 := Lib.hid hb
  have HB1 := Lib.hid (HB0.out.trans (hb.mono HB0.out.size))
  clear hb
  rw [HPA.out.take34] at ho
  have HI1 := Lib.hid (ho.ints (by omega))
  obtain ⟨A1, c1, rfl⟩ := ho.form (by omega)
  clear ho
  go_wp2_with fail
  with_reducible refine (Core_yes _ l HPA.out p h1 h10 _ HI1.out).mono ?_
  rintro e w2 ⟨c0, v2, rfl, hcr, hci, hb⟩
  have HCR := Lib.hid hcr
  have HC2 := Lib.hid hci
  have HS2 := Lib.hid hb
  have HB2 := Lib.hid (HB1.out.trans (hb.mono HB1.out.size))
  have HCF := Lib.hid (hcr.facts hpi HPA.out)
  have hc30 := HCF.out.1.len
  obtain ⟨A2, c2, hv2⟩ : ∃ A c, v2 = .slice A c0.length c := by obtain ⟨_, A, c, h, _⟩ := hci; exact ⟨A, c, h⟩
  subst hv2
  clear hcr hci hb
  go_wp2_with fail
  with_reducible refine (list_any _ l _ (HV.out.keep HB2.out)).mono ?_
  rintro e w3 ⟨va, rfl, ho, hb⟩
  have HS3 := Lib.hid hb
  have HB3 := Lib.hid (HB2.out.trans (hb.mono HB2.out.size))
  clear hb
  rw [HPA.out.take34] at ho
  have HI3 := Lib.hid (ho.ints (by omega))
  obtain ⟨A3, c3, rfl⟩ := ho.form (by omega)
  clear ho
  go_wp2_with fail
  with_reducible refine (Rims_yes _ l HPA.out p h1 h10 _ HI3.out).mono ?_
  rintro e w4 ⟨v4, rfl, hil, hb⟩
  have HB4 := Lib.hid (HB3.out.trans (hb.mono HB3.out.size))
  have HR4 := Lib.hid hil
  have HC4 := Lib.hid ((HC2.out.keep HS3.out).keep hb)
  obtain ⟨A4, c4, rfl⟩ := hil.form
  clear hb hil
  go_wp2_with fail
  with_reducible refine (rValid_yes _ l HPA.out _ (HV.out.keep HB4.out)).mono ?_
  rintro e _ ⟨rfl, rfl⟩
  go_wp2_with fail
  with_reducible refine (clone_any _ c0 _ HC4.out).mono ?_
  rintro e w5 ⟨va, rfl, ho, hb⟩
  have HS5 := Lib.hid hb
  have HB5 := Lib.hid (HB4.out.trans (hb.mono HB4.out.size))
  have HI5 := Lib.hid (ho.ints (by omega))
  have HC5 := Lib.hid (HC4.out.keep hb)
  have HR5 := Lib.hid (HR4.out.keep hb)
  obtain ⟨A5, c5, rfl⟩ := ho.form (by omega)
  clear ho hb
  go_wp2_with fail
  with_reducible refine (Core_yes _ c0 HCF.out.1 p h1 h10 _ HI5.out).mono ?_
  rintro e w6 ⟨c6, v6, rfl, hcr, hci, hb⟩
  obtain rfl : c0 = c6 := (hcr.unique (CoreR.done HCF.out.2.1)).symm
  have HB6 := Lib.hid (HB5.out.trans (hb.mono HB5.out.size))
  have HC6 := Lib.hid (HC5.out.keep hb)
  have HR6 := Lib.hid (HR5.out.keep hb)
  have HAG6 := Lib.hid hci
  obtain ⟨A6, c6, hv6⟩ : ∃ A c, v6 = .slice A c0.length c := by obtain ⟨_, A, c, h, _⟩ := hci; exact ⟨A, c, h⟩
  subst hv6
  clear hcr hci hb
  go_wp2_with fail
  with_reducible refine (clone_any _ c0 _ HC6.out).mono ?_
  rintro e w7 ⟨va, rfl, ho, hb⟩
  have HS7 := Lib.hid hb
  have HB7 := Lib.hid (HB6.out.trans (hb.mono HB6.out.size))
  have HI7 := Lib.hid (ho.ints (by omega))
  obtain ⟨A7, c7, rfl⟩ := ho.form (by omega)
  clear ho hb
  go_wp2_with fail
  with_reducible refine (Hooks_yes _ c0 HCF.out.1 _ HI7.out).mono ?_
  rintro e w8 ⟨v8, rfl, hil, hb⟩
  have HS8 := Lib.hid (HS7.out.trans (hb.mono HS7.out.size))
  have HB8 := Lib.hid (HB7.out.trans (hb.mono HB7.out.size))
  have HH8 := Lib.hid hil
  obtain ⟨A8, c8, rfl⟩ := hil.form
  clear hb hil
  go_wp2_with fail
  with_reducible refine (list_any _ l _ (HV.out.keep HB8.out)).mono ?_
  rintro e w9 ⟨va, rfl, ho, hb⟩
  have HS9 := Lib.hid hb
  have HB9 := Lib.hid (HB8.out.trans (hb.mono HB8.out.size))
  clear hb
  rw [HPA.out.take34] at ho
  have HI9 := Lib.hid (ho.ints (by omega))
  obtain ⟨A9, c9, rfl⟩ := ho.form (by omega)
  clear ho
  go_wp2_with fail
  with_reducible refine (Hooks_yes _ l HPA.out _ HI9.out).mono ?_
  rintro e w10 ⟨v10, rfl, hil, hb⟩
  have HS10 := Lib.hid (HS9.out.trans (hb.mono HS9.out.size))
  have HB10 := Lib.hid (HB9.out.trans (hb.mono HB9.out.size))
  have HG10 := Lib.hid hil
  obtain ⟨A10, c10, rfl⟩ := hil.form
  clear hb hil
  go_wp2_with fail
  with_reducible refine (list_any _ l _ (HV.out.keep HB10.out)).mono ?_
  rintro e w11 ⟨va, rfl, ho, hb⟩
  have HS11 := Lib.hid hb
  have HB11 := Lib.hid (HB10.out.trans (hb.mono HB10.out.size))
  clear hb
  rw [HPA.out.take34] at ho
  have HI11 := Lib.hid (ho.ints (by omega))
  obtain ⟨A11, c11, rfl⟩ := ho.form (by omega)
  clear ho
  go_wp2_with fail
  with_reducible refine (Conjugate_yes _ l HPA.out _ HI11.out).mono ?_
  rintro e w12 ⟨v12, rfl, hci, hb⟩
  have HS12 := Lib.hid (HS11.out.trans (hb.mono HS11.out.size))
  have HB12 := Lib.hid (HB11.out.trans (hb.mono HB11.out.size))
  have HT12 := Lib.hid hci
  obtain ⟨A12, c12, hv12⟩ : ∃ A c, v12 = .slice A (conj l).length c := by obtain ⟨_, A, c, h, _⟩ := hci; exact ⟨A, c, h⟩
  subst hv12
  clear hb hci
  have HC12 := Lib.hid (((HC6.out.keep HS8.out).keep HS10.out).keep HS12.out)
  have HAG12 := Lib.hid (((HAG6.out.keep HS8.out).keep HS10.out).keep HS12.out)
  have HPC := Lib.hid (conj_part HPA.out)
  have HCC := Lib.hid (core_conj hpi HCR.out HPA.out)
  have hcl30 := HPC.out.len
  generalize conj l = cl at *
  go_wp2_with fail
  with_reducible refine (equal_yes _ _ c0 _ HC12.out HAG12.out).mono ?_
  rintro e w13 ⟨rfl, hb⟩
  have HB13 := Lib.hid (HB12.out.trans (hb.mono HB12.out.size))
  have HS13 := Lib.hid hb
  have HC13 := Lib.hid (HC12.out.keep hb)
  have HT13 := Lib.hid (HT12.out.keep hb)
  clear hb
  go_wp2_with fail
  with_reducible refine (Core_yes _ cl HPC.out p h1 h10 _ HT13.out).mono ?_
  rintro e w14 ⟨c14, v14, rfl, hcr, hci, hb⟩
  obtain rfl : c14 = conj c0 := hcr.unique HCC.out
  have HS14 := Lib.hid hb
  have HB14 := Lib.hid (HB13.out.trans (hb.mono HB13.out.size))
  have HC14 := Lib.hid (HC13.out.keep hb)
  have HU14 := Lib.hid hci
  obtain ⟨A14, c14, hv14⟩ : ∃ A c, v14 = .slice A (conj c0).length c := by obtain ⟨_, A, c, h, _⟩ := hci; exact ⟨A, c, h⟩
  subst hv14
  clear hcr hci hb
  go_wp2_with fail
  with_reducible refine (clone_any _ c0 _ HC14.out).mono ?_
  rintro e w15 ⟨va, rfl, ho, hb⟩
  have HS15 := Lib.hid hb
  have HB15 := Lib.hid (HB14.out.trans (hb.mono HB14.out.size))
  have HI15 := Lib.hid (ho.ints (by omega))
  obtain ⟨A15, c15, rfl⟩ := ho.form (by omega)
  clear ho hb
  go_wp2_with fail
  with_reducible refine (Conjugate_yes _ c0 HCF.out.1 _ HI15.out).mono ?_
  rintro e w16 ⟨v16, rfl, hci, hb⟩
  have HS16 := Lib.hid (HS15.out.trans (hb.mono HS15.out.size))
  have HB16 := Lib.hid (HB15.out.trans (hb.mono HB15.out.size))
  have HV16 := Lib.hid hci
  have HU16 := Lib.hid (HU14.out.keep HS16.out)
  obtain ⟨A16, c16, hv16⟩ : ∃ A c, v16 = .slice A (conj c0).length c := by obtain ⟨_, A, c, h, _⟩ := hci; exact ⟨A, c, h⟩
  subst hv16
  clear hb hci
  generalize conj c0 = cc at *
  go_wp2_with fail
  with_reducible refine (equal_yes _ _ cc _ HU16.out HV16.out).mono ?_
  rintro e w17 ⟨rfl, hb⟩
  have HB17 := Lib.hid (HB16.out.trans (hb.mono HB16.out.size))
  have HH := Lib.hid ((((((HH8.out.keep HS10.out).keep HS12.out).keep HS13.out).keep HS14.out).keep HS16.out).keep hb)
  have HG := Lib.hid (((((HG10.out.keep HS12.out).keep HS13.out).keep HS14.out).keep HS16.out).keep hb)
  have HR := Lib.hid (((((((HR6.out.keep HS8.out).keep HS10.out).keep HS12.out).keep HS13.out).keep HS14.out).keep HS16.out).keep hb)
  have HC := Lib.hid ((HC14.out.keep HS16.out).keep hb)
  have HW := Lib.hid (HV.out.keep HB17.out)
  clear hb
  have HZ := Lib.hid (cnt_zero_row (core_zero HCF.out.1 h1 HCF.out.2.1))
  have HCN := Lib.hid (core_count h1 HCR.out HPA.out)
  have HRN := Lib.hid (rims_count HPA.out h1)
  obtain ⟨a8, n8⟩ : ∃ n, n = (hooks c0).length := ⟨_, rfl⟩
  have hl1 := hooksLen c0
  rw [hl1]
  have hl2 := hooksLen l
  rw [hl2]
  clear hl1 hl2
  clear a8 n8
  go_wp2_with fail
  go_loop [148] (fun k => ∃ m : Nat, m ≤ c0.length ∧ k = .int .i64 m) (fun k => c0.length - (intOf k).toNat)
  case atStart => exact ⟨0, Nat.zero_le _, rfl⟩
  case round =>
    obtain ⟨m, hm, rfl⟩ := hrel
    by_cases hlt : m < c0.length
    · obtain ⟨ad, c', A', cc', y, hv, hy, hcs, hy30, hy1, hcells⟩ := hookRow HH.out HCF.out.1 m hlt
      rw [hooksLen] at hv
      simp only [Value.slice.injEq] at hv
      obtain ⟨rfl, _, rfl⟩ := hv
      have HY := Lib.hid hy
      have HCE := Lib.hid hcells
      clear hy hcells
      go_wp2_with fail
      go_loop [154] (fun j => ∃ k : Nat, k ≤ y ∧ j = .int .i64 k) (fun j => y - (intOf j).toNat)
      case atStart => exact ⟨0, Nat.zero_le _, rfl⟩
      case round =>
        obtain ⟨k, hk, rfl⟩ := hrel
        by_cases hky : k < y
        · have hcx := HCE.out k hky
          have hh := hookPos HCF.out.1 m k hlt (by rw [HY.out]; omega)
          have hz := HZ.out m hlt k (by rw [HY.out]; omega)
          unfold dvB at hz
          have hz2 : (hook c0 m k % (p : Int) == 0) = false := by rw [beq_eq_false_iff_ne]; simpa using hz
          clear hz
          have hh1 := hh.1
          have hh2 := hh.2
          clear hh
          generalize hook c0 m k = x at *
          go_wp2_with fail
          go_round
          case rel => exact ⟨k + 1, by omega, by go_num⟩
          case measure => simp [intOf]; omega
        · obtain rfl : k = y := by omega
          go_wp2_with fail
          go_round
          case rel => exact ⟨m + 1, by omega, by go_num⟩
          case measure => simp [intOf]; omega
    · obtain rfl : m = c0.length := by omega
      go_wp2_with fail
      go_loop [21, 22, 166] (fun a b i => ∃ m : Nat, m ≤ l.length ∧ i = .int .i64 m ∧ a = .int .i64 (cntP (fun x => decide (x = (p : Int))) (hkAll l m) : Nat) ∧ b = .int .i64 (cntP (dvB p) (hkAll l m) : Nat)) (fun _ _ i => l.length - (intOf i).toNat)
      case atStart => exact ⟨0, Nat.zero_le _, rfl, rfl, rfl⟩
      case round =>
        obtain ⟨m, hm, rfl, rfl, rfl⟩ := hrel
        have b1 := all_le (fun x => decide (x = (p : Int))) HPA.out m hm
        have b2 := all_le (dvB p) HPA.out m hm
        by_cases hlt2 : m < l.length
        · obtain ⟨ad, c', A', cc', y, hv, hy, hcs, hy30, hy1, hcells⟩ := hookRow HG.out HPA.out m hlt2
          rw [hooksLen] at hv
          simp only [Value.slice.injEq] at hv
          obtain ⟨rfl, _, rfl⟩ := hv
          have HY := Lib.hid hy
          have HCE := Lib.hid hcells
          have HA1 := Lib.hid (all_cnt (fun x => decide (x = (p : Int))) l m)
          have HA2 := Lib.hid (all_cnt (dvB p) l m)
          rw [show (l.getD m 0).toNat = y by omega] at HA1 HA2
          clear hy hcells
          generalize cntP (fun x => decide (x = (p : Int))) (hkAll l m) = a0 at *
          generalize cntP (dvB p) (hkAll l m) = b0 at *
          go_wp2_with fail
          go_loop [21, 22, 172] (fun a b j => ∃ k : Nat, k ≤ y ∧ j = .int .i64 k ∧ a = .int .i64 ((a0 + (hkRow l m k).countP (fun x => decide (x = (p : Int))) : Nat)) ∧ b = .int .i64 ((b0 + (hkRow l m k).countP (dvB p) : Nat))) (fun _ _ j => y - (intOf j).toNat)
          case atStart => exact ⟨0, Nat.zero_le _, rfl, rfl, rfl⟩
          case round =>
            obtain ⟨k, hk, rfl, rfl, rfl⟩ := hrel
            by_cases hky : k < y
            · have hcx := HCE.out k hky
              have hh := hookPos HPA.out m k hlt2 (by rw [HY.out]; omega)
              have c1 := row_le (fun x => decide (x = (p : Int))) l m k
              have c2 := row_le (dvB p) l m k
              have HR1 := Lib.hid (row_cnt (fun x => decide (x = (p : Int))) l m k)
              have HR2 := Lib.hid (row_cnt (dvB p) l m k)
              have hh1 := hh.1
              have hh2 := hh.2
              clear hh
              generalize (hkRow l m k).countP (fun x => decide (x = (p : Int))) = a1 at *
              generalize (hkRow l m k).countP (dvB p) = b1' at *
              generalize hook l m k = x at *
              by_cases e1 : x = (p : Int)
              · subst e1
                have g1 : ((p : Int) % (p : Int) == 0) = true := by rw [Int.emod_self]; rfl
                have r1 := HR1.out
                have r2 := HR2.out
                rw [if_pos (by simp)] at r1
                rw [if_pos (by unfold dvB; simp)] at r2
                have HR1 := Lib.hid r1
                have HR2 := Lib.hid r2
                clear r1 r2
                go_wp2_with fail
                go_round
                case rel => exact ⟨k + 1, by omega, by go_num, by rw [HR1.out]; go_num, by rw [HR2.out]; go_num⟩
                case measure => simp [intOf]; omega
              · have g1 : (x == (p : Int)) = false := by rw [beq_eq_false_iff_ne]; exact e1
                have r1 := HR1.out
                rw [if_neg (by simpa using e1)] at r1
                by_cases e2 : x % (p : Int) = 0
                · have g2 : (x % (p : Int) == 0) = true := by rw [e2]; rfl
                  have r2 := HR2.out
                  rw [if_pos (by unfold dvB; simpa using e2)] at r2
                  have HR1 := Lib.hid r1
                  have HR2 := Lib.hid r2
                  clear r1 r2 e2
                  go_wp2_with fail
                  go_round
                  case rel => exact ⟨k + 1, by omega, by go_num, by rw [HR1.out]; rfl, by rw [HR2.out]; go_num⟩
                  case measure => simp [intOf]; omega
                · have g2 : (x % (p : Int) == 0) = false := by rw [beq_eq_false_iff_ne]; exact e2
                  have r2 := HR2.out
                  rw [if_neg (by unfold dvB; simpa using e2)] at r2
                  have HR1 := Lib.hid r1
                  have HR2 := Lib.hid r2
                  clear r1 r2 e2
                  go_wp2_with fail
                  go_round
                  case rel => exact ⟨k + 1, by omega, by go_num, by rw [HR1.out]; rfl, by rw [HR2.out]; rfl⟩
                  case measure => simp [intOf]; omega
            · obtain rfl : k = y := by omega
              go_wp2_with fail
              go_round
              case rel => exact ⟨m + 1, by omega, by go_num, by rw [HA1.out], by rw [HA2.out]⟩
              case measure => simp [intOf]; omega
        · obtain rfl : m = l.length := by omega
          have HRN2 := Lib.hid (show (RmL l p).length = cntP (fun x => decide (x = (p : Int))) (hkAll l l.length) from HRN.out)
          have HCN2 := Lib.hid (show l.sum - c0.sum = ((cntP (dvB p) (hkAll l l.length) : Nat) : Int) * (p : Int) from HCN.out)
          generalize cntP (fun x => decide (x = (p : Int))) (hkAll l l.length) = a0 at *
          generalize cntP (dvB p) (hkAll l l.length) = b0 at *
          obtain rfl : a0 = (RmL l p).length := HRN2.out.symm
          obtain ⟨sl, hsl⟩ := Int.eq_ofNat_of_zero_le HPA.out.sum0
          obtain ⟨sc, hsc⟩ := Int.eq_ofNat_of_zero_le HCF.out.1.sum0
          have hs30 := HPA.out.2
          have hc30 := HCF.out.1.2
          have hsl30 : (sl : Int) ≤ 30 := by omega
          have hsc30 : (sc : Int) ≤ 30 := by omega
          have HSL := Lib.hid hsl
          have HSC := Lib.hid hsc
          have hrl : (RmL l p).length ≤ 900 := by omega
          have hbp : 0 ≤ (b0 : Int) * p ∧ (b0 : Int) * p ≤ 1000 := ⟨Int.mul_nonneg (by omega) (by omega), by have := HCN2.out; omega⟩
          have hbp1 := hbp.1
          have hbp2 := hbp.2
          have hq := HCN2.out
          rw [hsl, hsc] at hq
          have HQQ := Lib.hid (show (((sl : Int) - (sc : Int)) == (b0 : Int) * (p : Int)) = true by rw [beq_iff_eq]; exact hq)
          have HSUML := Lib.hid (fun W hW => rSum_any (.slice A l.length c) l HPA.out.1 (by omega) W hW)
          have HSUMC := Lib.hid (fun W hW => rSum_any (.slice A2 c0.length c2) c0 HCF.out.1.1 (by omega) W hW)
          rw [hsl] at HSUML
          rw [hsc] at HSUMC
          clear hq hsl hsc hbp
          go_wp2_with fail
          go_loopw [191] (fun i wr => ∃ k : Nat, k ≤ (RmL l p).length ∧ i = .int .i64 k ∧ Below w17.heap.size w17 wr) (fun i _ => (RmL l p).length - (intOf i).toNat)
          case atStart => exact ⟨0, Nat.zero_le _, rfl, Below.refl _ _⟩
          case round =>
            obtain ⟨k, hk, rfl, hbw⟩ := hrel
            by_cases hlt3 : k < (RmL l p).length
            · obtain ⟨ad, cx, s, hv, _, hcs, his, _⟩ := (HR.out.keep hbw).get hlt3
              simp only [Value.slice.injEq] at hv
              obtain ⟨rfl, _, rfl⟩ := hv
              have HMM := Lib.hid (show (RmL l p).getD k [] ∈ RmL l p by rw [List.getD_eq_getElem?_getD, List.getElem?_eq_getElem hlt3]; exact List.getElem_mem hlt3)
              generalize (RmL l p).getD k [] = mm at *
              have HPM := Lib.hid (RmL_part HPA.out hpi HMM.out)
              have HIS := Lib.hid his
              obtain ⟨As, cs', hss⟩ : ∃ A c, s = .slice A mm.length c := by obtain ⟨_, A, c, h, _⟩ := his; exact ⟨A, c, h⟩
              subst hss
              clear his
              go_wp2_with fail
              with_reducible refine (clone_any _ mm _ HIS.out).mono ?_
              rintro e x1 ⟨va, rfl, ho, hb⟩
              have hlm := HPM.out.1.len
              have X1 := Lib.hid (hbw.trans (hb.mono hbw.size))
              have HM1 := Lib.hid (HIS.out.keep hb)
              have HI1 := Lib.hid (ho.ints (by omega))
              obtain ⟨B1, d1', rfl⟩ := ho.form (by omega)
              clear ho hb
              go_wp2_with fail
              with_reducible refine (Core_yes _ mm HPM.out.1 p h1 h10 _ HI1.out).mono ?_
              rintro e x2 ⟨cd, vd, rfl, hcr, hci, hb⟩
              obtain rfl : cd = c0 := hcr.unique (core_conf hpi _ l mm c0 HPA.out (Int.self_le_toNat _) HCR.out HMM.out)
              have X2 := Lib.hid (X1.out.trans (hb.mono X1.out.size))
              have HM2 := Lib.hid (HM1.out.keep hb)
              have HD := Lib.hid hci
              obtain ⟨B2, d2', hvd⟩ : ∃ A c, vd = .slice A cd.length c := by obtain ⟨_, A, c, h, _⟩ := hci; exact ⟨A, c, h⟩
              subst hvd
              clear hcr hci hb
              go_wp2_with fail
              with_reducible refine (equal_yes _ _ cd _ HD.out (HC.out.keep X2.out)).mono ?_
              rintro e x3 ⟨rfl, hb⟩
              have X3 := Lib.hid (X2.out.trans (hb.mono X2.out.size))
              have HM3 := Lib.hid (HM2.out.keep hb)
              clear hb
              have HSUMM := Lib.hid (fun W hW => rSum_any (.slice As mm.length cs') mm HPM.out.1.1 (by omega) W hW)
              rw [show mm.sum = (sl : Int) - p by have := HPM.out.2; have := HSL.out; omega] at HSUMM
              have tq : (((sl : Int) - (p : Int)) != ((sl : Int) - (p : Int))) = false := by simp
              go_wp2_with fail
              (with_reducible refine (HSUMM.out _ HM3.out).mono ?_)
              rintro e _ ⟨rfl, rfl⟩
              go_wp2_with fail
              (with_reducible refine (HSUML.out _ ((HW.out.keep X3.out))).mono ?_)
              rintro e _ ⟨rfl, rfl⟩
              go_wp2_with fail
              go_roundw
              case rel => exact ⟨k + 1, by omega, by go_num, X3.out⟩
              case measure => simp [intOf]; omega
            · obtain rfl : k = (RmL l p).length := by omega
              have q1 : ((RmL l (p : Int)).length == (RmL l (p : Int)).length) = true := by simp
              go_wp2_with fail
              (with_reducible refine (HSUML.out _ ((HW.out.keep hbw))).mono ?_)
              rintro e _ ⟨rfl, rfl⟩
              go_wp2_with fail
              (with_reducible refine (HSUMC.out _ ((HC.out.keep hbw))).mono ?_)
              rintro e _ ⟨rfl, rfl⟩
              have tq := HQQ.out
              go_wp2_with fail
              (with_reducible refine (awake_any _).mono ?_)
              rintro e wz ⟨rfl, bz⟩
              go_wp2_with fail
              go_ret
              exact ⟨rfl, (HB17.out.trans (hbw.mono HB17.out.size)).trans (bz.mono (HB17.out.trans (hbw.mono HB17.out.size)).size)⟩
theorem partsCored_walk (w : World) (v : Value) (l : List Int) (hv : Ints w v l) (_ : ∀ n ∈ l, -9223372036854775808 ≤ n ∧ n ≤ 9223372036854775807) (p : Int) (_ : -9223372036854775808 ≤ p ∧ p ≤ 9223372036854775807) :
    Calls Try.prog 16 #[v, .int .i64 p] w fun e w' => e = .returned (.bool true) ∧ Below w.heap.size w w' := by
  by_cases h : badP l p
  · exact cored_no v l p h w hv
  · unfold badP at h
    have hp : Part l := Classical.byContradiction fun e => h (.inl e)
    obtain ⟨k, rfl⟩ : ∃ k : Nat, p = k := ⟨p.toNat, by omega⟩
    exact cored_yes v l hp k (by omega) (by omega) w hv
end Go.Proofs.Ytpgpkgnljoedaaa
