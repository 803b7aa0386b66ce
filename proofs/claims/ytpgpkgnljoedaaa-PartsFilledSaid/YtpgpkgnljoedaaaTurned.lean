/- The walk of PartsTurned. -/
import Derived.Test.YtpgpkgnljoedaaaCj
namespace Go.Proofs.Ytpgpkgnljoedaaa
open Go.RowKit

theorem hooks_length (l : List Int) : (hooks l).length = l.length := hkAll_length _ _
theorem hooks_get (l : List Int) (i : Nat) (h : i < l.length) : (hooks l)[i]? = some (hkRow l i (l.getD i 0).toNat) := by simp [hooks, hkAll, h]
theorem hkRow_get (l : List Int) (i k j : Nat) (h : j < k) : (hkRow l i k)[j]? = some (hook l i j) := by simp [hkRow, h]

set_option maxRecDepth 100000 in
set_option maxHeartbeats 8000000 in
theorem partsTurned_no (v : Value) (l : List Int) (h : ¬ Part l) (w : World) (hv : Ints w v l) :
    Calls Try.prog 7 #[v] w fun e w' => e = .returned (.bool true) ∧ Below w.heap.size w w' := by
  have HQ := Lib.hid hv
  have HP := Lib.hid h
  have HP4 := Lib.hid (part_take h)
  clear hv h
  go_enter Try.func7, Try.ntmps7
  go_wp2_with fail
  refine (list_any _ l _ HQ.out).mono ?_
  rintro e w1 ⟨v1, rfl, o1, b1⟩
  have O0 := Lib.hid (o1.ints (by rw [List.length_take]; omega))
  have t1 := b1
  go_wp2_with fail
  (with_reducible refine (Conjugate_no _ _ HP4.out _ O0.out).mono ?_)
  rintro e _ ⟨rfl, rfl⟩
  go_wp2_with fail
  (with_reducible refine (awake_any _).mono ?_)
  rintro e we ⟨rfl, be⟩
  have t2 := t1.trans (be.mono t1.size)
  go_wp2_with fail
  go_ret
  exact ⟨rfl, t2⟩
set_option maxRecDepth 100000 in
set_option maxHeartbeats 8000000 in
theorem partsTurned_yes (v : Value) (l : List Int) (h : Part l) (w : World) (hv : Ints w v l) :
    Calls Try.prog 7 #[v] w fun e w' => e = .returned (.bool true) ∧ Below w.heap.size w w' := by
  obtain ⟨q, hq, hql⟩ := sq_ex l
  have HSQ := Lib.hid hq
  have HSC := Lib.hid (conj_sq h q hq)
  have hl30 := h.len
  have HPC := Lib.hid (conj_part h)
  have HCL := Lib.hid (conj_len h)
  have HCC := Lib.hid (conj_conj h)
  have HCR := Lib.hid (conj_rk h)
  have hc30 := (conj_part h).len
  have hrk : -30 ≤ rk l ∧ rk l ≤ 30 := by unfold rk; have := first_bd h; omega
  clear hq
  have HQ := Lib.hid hv
  have HP := Lib.hid h
  have HT := Lib.hid h.take34
  clear hv h
  go_enter Try.func7, Try.ntmps7
  go_wp2_with fail
  refine (list_any _ l _ HQ.out).mono ?_
  rintro e w1 ⟨v1, rfl, o1, b1⟩
  have O0 := Lib.hid (o1.ints (by rw [List.length_take]; omega))
  have t1 := b1
  rw [HT.out] at O0
  go_wp2_with fail
  (with_reducible refine (Conjugate_yes _ l HP.out _ O0.out).mono ?_)
  rintro e wc ⟨vc, rfl, ic, bc⟩
  have HIC := Lib.hid ic
  obtain ⟨_, Ac, cc, rfl, _, _⟩ := HIC.out
  have t2 := t1.trans (bc.mono t1.size)
  go_wp2_with fail
  refine (clone_any _ (conj l) _ HIC.out).mono ?_
  rintro e w3 ⟨v3, rfl, o3, b3⟩
  have C1 := Lib.hid (o3.ints (by omega))
  have t3 := t2.trans (b3.mono t2.size)
  have HIC := Lib.hid (HIC.out.keep b3)
  go_wp2_with fail
  (with_reducible refine (Conjugate_yes _ (conj l) HPC.out _ C1.out).mono ?_)
  rintro e wb ⟨vb, rfl, ib, bb⟩
  rw [HCC.out] at ib
  have HIB := Lib.hid ib
  obtain ⟨_, Ab, cb, rfl, _, _⟩ := HIB.out
  have t4 := t3.trans (bb.mono t3.size)
  have HIC := Lib.hid (HIC.out.keep bb)
  go_wp2_with fail
  refine (list_any _ l _ (HQ.out.keep t4)).mono ?_
  rintro e w5 ⟨v5, rfl, o5, b5⟩
  have O1 := Lib.hid (o5.ints (by rw [List.length_take]; omega))
  have t5 := t4.trans (b5.mono t4.size)
  rw [HT.out] at O1
  have HIC := Lib.hid (HIC.out.keep b5)
  have HIB := Lib.hid (HIB.out.keep b5)
  go_wp2_with fail
  (with_reducible refine (Square_yes _ l HP.out q HSQ.out (by omega) _ O1.out).mono ?_)
  rintro e _ ⟨rfl, rfl⟩
  go_wp2_with fail
  refine (clone_any _ (conj l) _ HIC.out).mono ?_
  rintro e w6 ⟨v6, rfl, o6, b6⟩
  have C2 := Lib.hid (o6.ints (by omega))
  have t6 := t5.trans (b6.mono t5.size)
  have HIC := Lib.hid (HIC.out.keep b6)
  have HIB := Lib.hid (HIB.out.keep b6)
  go_wp2_with fail
  (with_reducible refine (Square_yes _ (conj l) HPC.out q HSC.out (by omega) _ C2.out).mono ?_)
  rintro e _ ⟨rfl, rfl⟩
  go_wp2_with fail
  refine (list_any _ l _ (HQ.out.keep t6)).mono ?_
  rintro e w7 ⟨v7, rfl, o7, b7⟩
  have O2 := Lib.hid (o7.ints (by rw [List.length_take]; omega))
  have t7 := t6.trans (b7.mono t6.size)
  rw [HT.out] at O2
  have HIC := Lib.hid (HIC.out.keep b7)
  have HIB := Lib.hid (HIB.out.keep b7)
  go_wp2_with fail
  (with_reducible refine (Rank_yes _ l HP.out _ O2.out).mono ?_)
  rintro e _ ⟨rfl, rfl⟩
  go_wp2_with fail
  refine (clone_any _ (conj l) _ HIC.out).mono ?_
  rintro e w8 ⟨v8, rfl, o8, b8⟩
  have C3 := Lib.hid (o8.ints (by omega))
  have t8 := t7.trans (b8.mono t7.size)
  have HIC := Lib.hid (HIC.out.keep b8)
  have HIB := Lib.hid (HIB.out.keep b8)
  have HRC := Lib.hid (fun u V hV => Rank_yes u (conj l) HPC.out V hV)
  rw [HCR.out] at HRC
  generalize rk l = r at *
  go_wp2_with fail
  (with_reducible refine (HRC.out _ _ C3.out).mono ?_)
  rintro e _ ⟨rfl, rfl⟩
  go_wp2_with fail
  refine (list_any _ l _ (HQ.out.keep t8)).mono ?_
  rintro e w9 ⟨v9, rfl, o9, b9⟩
  have O3 := Lib.hid (o9.ints (by rw [List.length_take]; omega))
  have t9 := t8.trans (b9.mono t8.size)
  rw [HT.out] at O3
  have HIC := Lib.hid (HIC.out.keep b9)
  have HIB := Lib.hid (HIB.out.keep b9)
  go_wp2_with fail
  (with_reducible refine (Hooks_yes _ l HP.out _ O3.out).mono ?_)
  rintro e wh ⟨vh, rfl, ih, bh⟩
  have HIH := Lib.hid ih
  obtain ⟨_, Ah, ch, vsh, rfl, hchh, hhe, hhr⟩ := ih
  clear hhe hhr
  have t10 := t9.trans (bh.mono t9.size)
  have HIC := Lib.hid (HIC.out.keep bh)
  have HIB := Lib.hid (HIB.out.keep bh)
  go_wp2_with fail
  refine (clone_any _ (conj l) _ HIC.out).mono ?_
  rintro e w11 ⟨v11, rfl, o11, b11⟩
  have C4 := Lib.hid (o11.ints (by omega))
  have t11 := t10.trans (b11.mono t10.size)
  have HIC := Lib.hid (HIC.out.keep b11)
  have HIB := Lib.hid (HIB.out.keep b11)
  have HIH := Lib.hid (HIH.out.keep b11)
  go_wp2_with fail
  (with_reducible refine (Hooks_yes _ (conj l) HPC.out _ C4.out).mono ?_)
  rintro e wk ⟨vk, rfl, ik, bk⟩
  have HIK := Lib.hid ik
  obtain ⟨_, Ak, ck, vsk, rfl, hckk, hke, hkr⟩ := ik
  clear hke hkr
  have t12 := t11.trans (bk.mono t11.size)
  have HIC := Lib.hid (HIC.out.keep bk)
  have HIB := Lib.hid (HIB.out.keep bk)
  have HIH := Lib.hid (HIH.out.keep bk)
  go_wp2_with fail
  (with_reducible refine (equal_yes _ _ l _ HIB.out (HQ.out.keep t12)).mono ?_)
  rintro e wq ⟨rfl, bq⟩
  have t13 := t12.trans (bq.mono t12.size)
  have HIH := Lib.hid (HIH.out.keep bq)
  have HIK := Lib.hid (HIK.out.keep bq)
  obtain ⟨_, Ah', ch', vsh', eh, hchh', hhe, hhr⟩ := HIH.out
  obtain ⟨_, Ak', ck', vsk', ek, hckk', hke, hkr⟩ := HIK.out
  simp only [Value.slice.injEq] at eh ek
  obtain ⟨rfl, _, rfl⟩ := eh
  obtain ⟨rfl, _, rfl⟩ := ek
  rw [hooks_length] at hhr hkr
  have HHE := Lib.hid hhe
  have HHR := Lib.hid hhr
  have HKE := Lib.hid hke
  have HKR := Lib.hid hkr
  have hqv := HQ.out
  obtain ⟨_, Aq, cq, rfl, _, _⟩ := hqv
  have hl1 := hooks_length l
  have hl2 := hooks_length (conj l)
  rw [hl1, hl2]
  rw [hl1] at hchh hchh'
  rw [hl2] at hckk hckk'
  clear hhe hhr hke hkr hl1 hl2
  have TT := Lib.hid t13
  go_wp2_with fail
  go_loop [137] (fun i => ∃ m : Nat, m ≤ l.length ∧ i = .int .i64 m) (fun i => l.length - (intOf i).toNat)
  case atStart => exact ⟨0, Nat.zero_le _, rfl⟩
  case round =>
    obtain ⟨m, hm, rfl⟩ := hrel
    by_cases hlt : m < l.length
    · obtain ⟨adh, rfl, hblh, hcellh⟩ := HHR.out (by omega)
      have lh : m < vsh'.length := by rw [HHE.out.1, hooks_length]; exact hlt
      have gh := List.getElem?_eq_getElem lh
      have hcs := hcellh m _ gh
      have hih := (HHE.out.2 m _ _ gh (hooks_get l m hlt)).1
      obtain ⟨y, hy⟩ := Int.eq_ofNat_of_zero_le (show 0 ≤ l.getD m 0 by have := (HP.out.at m hlt).1; omega)
      have hfall := HP.out.fall 0 m (by omega) hlt
      have HY := Lib.hid hy
      rw [show (l.getD m 0).toNat = y by omega] at hih
      generalize vsh'[m] = sh at *
      obtain ⟨_, Ar, cr, rfl, hcr, hrr⟩ := hih
      rw [hkRow_length] at hcr hrr hcs
      have HRR := Lib.hid hrr
      have HFALL := Lib.hid hfall
      clear hrr gh lh hcellh hy hfall
      go_wp2_with fail
      go_loop [144] (fun j => ∃ k : Nat, k ≤ y ∧ j = .int .i64 k) (fun j => y - (intOf j).toNat)
      case atStart => exact ⟨0, Nat.zero_le _, rfl⟩
      case round =>
        obtain ⟨k, hk, rfl⟩ := hrel
        by_cases hky : k < y
        · have hkl : (k : Int) < l.getD m 0 := by rw [HY.out]; omega
          have hkf : k < (conj l).length := by have := HCL.out; have := HFALL.out; omega
          have hmc := (cn_iff HP.out k m hlt).1 hkl
          have hcd := conj_getD (l := l) k (by have := HFALL.out; omega)
          obtain ⟨adr, rfl, hblr, hcellr⟩ := HRR.out (by omega)
          have hcx := hcellr k _ (hkRow_get l m y k hky)
          obtain ⟨adk, rfl, hblk, hcellk⟩ := HKR.out (by omega)
          have lk : k < vsk'.length := by rw [HKE.out.1, hooks_length]; exact hkf
          have gk := List.getElem?_eq_getElem lk
          have hcsk := hcellk k _ gk
          have hik := (HKE.out.2 k _ _ gk (hooks_get (conj l) k hkf)).1
          rw [hcd, Int.toNat_natCast] at hik
          generalize vsk'[k] = sk at *
          obtain ⟨_, Ar2, cr2, rfl, hcr2, hrr2⟩ := hik
          rw [hkRow_length] at hcr2 hrr2 hcsk
          obtain ⟨adr2, rfl, hblr2, hcellr2⟩ := hrr2 (by omega)
          have hcy := hcellr2 m _ (hkRow_get (conj l) k _ m hmc)
          rw [hook_conj HP.out m k hlt hkl] at hcy
          generalize hook l m k = z at *
          have d1 : decide (((conj l).length : Int) ≤ k) = false := decide_eq_false (by omega)
          have d2 : decide (((cn l k l.length : Nat) : Int) ≤ m) = false := decide_eq_false (by omega)
          generalize cn l k l.length = n at *
          clear hcellr gk lk hcellk hrr2 hcellr2 hcd hkl
          go_wp2_with fail
          go_round
          case rel => exact ⟨k + 1, by omega, by go_num⟩
          case measure => simp [intOf]; omega
        · obtain rfl : k = y := by omega
          go_wp2_with fail
          go_round
          case rel => exact ⟨m + 1, by omega, by go_num⟩
          case measure => simp [intOf]; omega
    · obtain rfl : m = l.length := by omega
      go_wp2_with fail
      (with_reducible refine (awake_any _).mono ?_)
      rintro e we ⟨rfl, be⟩
      go_wp2_with fail
      go_ret
      exact ⟨rfl, TT.out.trans (be.mono TT.out.size)⟩
/-- The walk of the law. -/
theorem partsTurned_walk (w : World) (v : Value) (l : List Int) (hv : Ints w v l) (_ : ∀ n ∈ l, -9223372036854775808 ≤ n ∧ n ≤ 9223372036854775807) :
    Calls Try.prog 7 #[v] w fun e w' => e = .returned (.bool true) ∧ Below w.heap.size w w' := by
  by_cases h : Part l
  · exact partsTurned_yes v l h w hv
  · exact partsTurned_no v l h w hv
end Go.Proofs.Ytpgpkgnljoedaaa
