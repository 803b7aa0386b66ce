/- The walk of PartsShapes. -/
import Derived.Test.YtpgpkgnljoedaaaHk
namespace Go.Proofs.Ytpgpkgnljoedaaa
open Go.RowKit

set_option maxRecDepth 100000 in
set_option maxHeartbeats 8000000 in
theorem partsShapes_no (v : Value) (l : List Int) (h : ¬ Part l) (w : World) (hv : Ints w v l) :
    Calls Try.prog 11 #[v] w fun e w' => e = .returned (.bool true) ∧ Below w.heap.size w w' := by
  have HQ := Lib.hid hv
  have HP := Lib.hid h
  have HP4 := Lib.hid (part_take h)
  clear hv h
  go_enter Try.func11, Try.ntmps11
  go_wp2_with fail
  refine (list_any _ l _ HQ.out).mono ?_
  rintro e w1 ⟨v1, rfl, o1, b1⟩
  have O0 := Lib.hid (o1.ints (by rw [List.length_take]; omega))
  have t1 := b1
  go_wp2_with fail
  (with_reducible refine (Conjugate_no _ _ HP4.out _ O0.out).mono ?_)
  rintro e _ ⟨rfl, rfl⟩
  go_wp2_with fail
  refine (list_any _ l _ (HQ.out.keep t1)).mono ?_
  rintro e w2 ⟨v2, rfl, o2, b2⟩
  have O1 := Lib.hid (o2.ints (by rw [List.length_take]; omega))
  have t2 := t1.trans (b2.mono t1.size)
  go_wp2_with fail
  (with_reducible refine (Square_no _ _ HP4.out _ O1.out).mono ?_)
  rintro e _ ⟨rfl, rfl⟩
  go_wp2_with fail
  refine (list_any _ l _ (HQ.out.keep t2)).mono ?_
  rintro e w3 ⟨v3, rfl, o3, b3⟩
  have O2 := Lib.hid (o3.ints (by rw [List.length_take]; omega))
  have t3 := t2.trans (b3.mono t2.size)
  go_wp2_with fail
  (with_reducible refine (Rank_no _ _ HP4.out _ O2.out).mono ?_)
  rintro e _ ⟨rfl, rfl⟩
  go_wp2_with fail
  refine (list_any _ l _ (HQ.out.keep t3)).mono ?_
  rintro e w4 ⟨v4, rfl, o4, b4⟩
  have O3 := Lib.hid (o4.ints (by rw [List.length_take]; omega))
  have t4 := t3.trans (b4.mono t3.size)
  go_wp2_with fail
  (with_reducible refine (Crank_no _ _ HP4.out _ O3.out).mono ?_)
  rintro e _ ⟨rfl, rfl⟩
  go_wp2_with fail
  (with_reducible refine (rValid_no _ l HP.out _ (HQ.out.keep t4)).mono ?_)
  rintro e _ ⟨rfl, rfl⟩
  go_wp2_with fail
  (with_reducible refine (awake_any _).mono ?_)
  rintro e we ⟨rfl, be⟩
  have t5 := t4.trans (be.mono t4.size)
  go_wp2_with fail
  go_ret
  exact ⟨rfl, t5⟩
set_option maxRecDepth 100000 in
set_option maxHeartbeats 8000000 in
theorem partsShapes_yes (v : Value) (l : List Int) (h : Part l) (w : World) (hv : Ints w v l) :
    Calls Try.prog 11 #[v] w fun e w' => e = .returned (.bool true) ∧ Below w.heap.size w w' := by
  obtain ⟨q, hq, hql⟩ := sq_ex l
  have HSQ := Lib.hid hq
  have hl30 := h.len
  clear hq
  have HQ := Lib.hid hv
  have HP := Lib.hid h
  have HT := Lib.hid h.take34
  clear hv h
  go_enter Try.func11, Try.ntmps11
  go_wp2_with fail
  refine (list_any _ l _ HQ.out).mono ?_
  rintro e w1 ⟨v1, rfl, o1, b1⟩
  have O0 := Lib.hid (o1.ints (by rw [List.length_take]; omega))
  have t1 := b1
  rw [HT.out] at O0
  go_wp2_with fail
  (with_reducible refine (Conjugate_yes _ l HP.out _ O0.out).mono ?_)
  rintro e wc ⟨vc, rfl, ic, bc⟩
  have HIC := Lib.hid ic
  obtain ⟨_, Ac, cc, rfl, _, _⟩ := HIC.out
  have t2 := t1.trans (bc.mono t1.size)
  go_wp2_with fail
  refine (list_any _ l _ (HQ.out.keep t2)).mono ?_
  rintro e w3 ⟨v3, rfl, o3, b3⟩
  have O1 := Lib.hid (o3.ints (by rw [List.length_take]; omega))
  have t3 := t2.trans (b3.mono t2.size)
  rw [HT.out] at O1
  have HIC := Lib.hid (HIC.out.keep b3)
  go_wp2_with fail
  (with_reducible refine (Square_yes _ l HP.out q HSQ.out (by omega) _ O1.out).mono ?_)
  rintro e _ ⟨rfl, rfl⟩
  go_wp2_with fail
  refine (list_any _ l _ (HQ.out.keep t3)).mono ?_
  rintro e w4 ⟨v4, rfl, o4, b4⟩
  have O2 := Lib.hid (o4.ints (by rw [List.length_take]; omega))
  have t4 := t3.trans (b4.mono t3.size)
  rw [HT.out] at O2
  have HIC := Lib.hid (HIC.out.keep b4)
  go_wp2_with fail
  (with_reducible refine (Rank_yes _ l HP.out _ O2.out).mono ?_)
  rintro e _ ⟨rfl, rfl⟩
  go_wp2_with fail
  refine (list_any _ l _ (HQ.out.keep t4)).mono ?_
  rintro e w5 ⟨v5, rfl, o5, b5⟩
  have O3 := Lib.hid (o5.ints (by rw [List.length_take]; omega))
  have t5 := t4.trans (b5.mono t4.size)
  rw [HT.out] at O3
  have HIC := Lib.hid (HIC.out.keep b5)
  go_wp2_with fail
  (with_reducible refine (Crank_yes _ l HP.out _ O3.out).mono ?_)
  rintro e _ ⟨rfl, rfl⟩
  go_wp2_with fail
  (with_reducible refine (rValid_yes _ l HP.out _ (HQ.out.keep t5)).mono ?_)
  rintro e _ ⟨rfl, rfl⟩
  go_wp2_with fail
  (with_reducible refine (rConjugate_any _ l HP.out _ (HQ.out.keep t5)).mono ?_)
  rintro e wr ⟨vr, rfl, orr, br⟩
  have HIR := Lib.hid (orr.ints (by rw [conj_length]; have := first_bd HP.out; omega))
  have HIC := Lib.hid (HIC.out.keep br)
  have t6 := t5.trans (br.mono t5.size)
  go_wp2_with fail
  (with_reducible refine (equal_yes _ _ (conj l) _ HIC.out HIR.out).mono ?_)
  rintro e wq ⟨rfl, bq⟩
  have t7 := t6.trans (bq.mono t6.size)
  go_wp2_with fail
  (with_reducible refine (rSquare_any _ l q HSQ.out hql _ (HQ.out.keep t7)).mono ?_)
  rintro e _ ⟨rfl, rfl⟩
  go_wp2_with fail
  (with_reducible refine (rRank_any _ l HP.out _ (HQ.out.keep t7)).mono ?_)
  rintro e _ ⟨rfl, rfl⟩
  go_wp2_with fail
  (with_reducible refine (rCrank_any _ l HP.out _ (HQ.out.keep t7)).mono ?_)
  rintro e _ ⟨rfl, rfl⟩
  go_wp2_with fail
  (with_reducible refine (awake_any _).mono ?_)
  rintro e we ⟨rfl, be⟩
  have t8 := t7.trans (be.mono t7.size)
  go_wp2_with fail
  go_ret
  exact ⟨rfl, t8⟩
/-- The walk of the law. -/
theorem partsShapes_walk (w : World) (v : Value) (l : List Int) (hv : Ints w v l) (_ : ∀ n ∈ l, -9223372036854775808 ≤ n ∧ n ≤ 9223372036854775807) :
    Calls Try.prog 11 #[v] w fun e w' => e = .returned (.bool true) ∧ Below w.heap.size w w' := by
  by_cases h : Part l
  · exact partsShapes_yes v l h w hv
  · exact partsShapes_no v l h w hv
end Go.Proofs.Ytpgpkgnljoedaaa
