/- The walk of NumeralAdds. -/
import Derived.Test.YtiknocjdogbajaaE
namespace Go.Proofs.Ytiknocjdogbajaa
open Go.RowKit

set_option maxHeartbeats 4000000 in
theorem adds_n1 (w : World) (v1 : Value) (xs : List Int) (h1 : Ints w v1 xs) (hb1 : ∀ n ∈ xs, -9223372036854775808 ≤ n ∧ n ≤ 9223372036854775807) (hx : ¬ IsNum xs) (v2 : Value) (ys : List Int) (h2 : Ints w v2 ys) (hb2 : ∀ n ∈ ys, -9223372036854775808 ≤ n ∧ n ≤ 9223372036854775807)  :
    Calls Try.prog 13 #[v1, v2] w fun e w' => e = .returned (.bool true) ∧ Below w.heap.size w w' := by
  have H1 := Lib.hid h1; clear h1
  have HB1 := Lib.hid hb1; clear hb1
  have HX := Lib.hid hx; clear hx
  have H2 := Lib.hid h2; clear h2
  have HB2 := Lib.hid hb2; clear hb2
  go_enter Try.func13, Try.ntmps13
  go_wp2_with fail
  first | (with_reducible refine (list_small v1 xs _ (H1.out.keep (Below.refl _ _))).mono ?_) | refine (list_small v1 xs _ (H1.out.keep (Below.refl _ _))).mono ?_
  rintro e w1 ⟨x1, rfl, g1, hb1⟩
  go_wp2_with fail
  first | (with_reducible refine (list_small v2 ys _ (H2.out.keep hb1)).mono ?_) | refine (list_small v2 ys _ (H2.out.keep hb1)).mono ?_
  rintro e w2 ⟨x2, rfl, g2, hb2⟩
  go_wp2_with fail
  first | (with_reducible refine (Add_no1 x1 x2 _ (take_isNum HX.out) (bounds_take HB1.out) _ (g1.keep hb2)).mono ?_) | refine (Add_no1 x1 x2 _ (take_isNum HX.out) (bounds_take HB1.out) _ (g1.keep hb2)).mono ?_
  rintro e _ ⟨rfl, rfl⟩
  go_wp2_with fail
  first | (with_reducible refine (list_small v1 xs _ (H1.out.keep (hb1.trans (hb2.mono hb1.size)))).mono ?_) | refine (list_small v1 xs _ (H1.out.keep (hb1.trans (hb2.mono hb1.size)))).mono ?_
  rintro e w3 ⟨x3, rfl, g3, hb3⟩
  go_wp2_with fail
  first | (with_reducible refine (list_small v2 ys _ (H2.out.keep ((hb1.trans (hb2.mono hb1.size)).trans (hb3.mono (hb1.trans (hb2.mono hb1.size)).size)))).mono ?_) | refine (list_small v2 ys _ (H2.out.keep ((hb1.trans (hb2.mono hb1.size)).trans (hb3.mono (hb1.trans (hb2.mono hb1.size)).size)))).mono ?_
  rintro e w4 ⟨x4, rfl, g4, hb4⟩
  go_wp2_with fail
  first | (with_reducible refine (Less_no1 x3 x4 _ (take_isNum HX.out) (bounds_take HB1.out) _ (g3.keep hb4)).mono ?_) | refine (Less_no1 x3 x4 _ (take_isNum HX.out) (bounds_take HB1.out) _ (g3.keep hb4)).mono ?_
  rintro e _ ⟨rfl, rfl⟩
  go_wp2_with fail
  first | (with_reducible refine (rValid_no v1 xs HX.out HB1.out _ (H1.out.keep (((hb1.trans (hb2.mono hb1.size)).trans (hb3.mono (hb1.trans (hb2.mono hb1.size)).size)).trans (hb4.mono ((hb1.trans (hb2.mono hb1.size)).trans (hb3.mono (hb1.trans (hb2.mono hb1.size)).size)).size)))).mono ?_) | refine (rValid_no v1 xs HX.out HB1.out _ (H1.out.keep (((hb1.trans (hb2.mono hb1.size)).trans (hb3.mono (hb1.trans (hb2.mono hb1.size)).size)).trans (hb4.mono ((hb1.trans (hb2.mono hb1.size)).trans (hb3.mono (hb1.trans (hb2.mono hb1.size)).size)).size)))).mono ?_
  rintro e _ ⟨rfl, rfl⟩
  go_wp2_with fail
  first | (with_reducible refine (awake_any _).mono ?_) | refine (awake_any _).mono ?_
  rintro e w5 ⟨rfl, hb5⟩
  go_wp2
  go_ret
  exact ⟨rfl, ((((hb1.trans (hb2.mono hb1.size)).trans (hb3.mono (hb1.trans (hb2.mono hb1.size)).size)).trans (hb4.mono ((hb1.trans (hb2.mono hb1.size)).trans (hb3.mono (hb1.trans (hb2.mono hb1.size)).size)).size)).trans (hb5.mono (((hb1.trans (hb2.mono hb1.size)).trans (hb3.mono (hb1.trans (hb2.mono hb1.size)).size)).trans (hb4.mono ((hb1.trans (hb2.mono hb1.size)).trans (hb3.mono (hb1.trans (hb2.mono hb1.size)).size)).size)).size))⟩

set_option maxHeartbeats 4000000 in
theorem adds_n2 (w : World) (v1 : Value) (l : List Nat) (h1 : Ints w v1 (ix l)) (hl : Falls 60 l) (v2 : Value) (ys : List Int) (h2 : Ints w v2 ys) (hb2 : ∀ n ∈ ys, -9223372036854775808 ≤ n ∧ n ≤ 9223372036854775807) (hx : ¬ IsNum ys)  :
    Calls Try.prog 13 #[v1, v2] w fun e w' => e = .returned (.bool true) ∧ Below w.heap.size w w' := by
  have H1 := Lib.hid h1; clear h1
  have HL := Lib.hid hl; clear hl
  have H2 := Lib.hid h2; clear h2
  have HB2 := Lib.hid hb2; clear hb2
  have HX := Lib.hid hx; clear hx
  go_enter Try.func13, Try.ntmps13
  go_wp2_with fail
  first | (with_reducible refine (list_num v1 l HL.out _ (H1.out.keep (Below.refl _ _))).mono ?_) | refine (list_num v1 l HL.out _ (H1.out.keep (Below.refl _ _))).mono ?_
  rintro e w1 ⟨x1, rfl, g1, hb1⟩
  go_wp2_with fail
  first | (with_reducible refine (list_small v2 ys _ (H2.out.keep hb1)).mono ?_) | refine (list_small v2 ys _ (H2.out.keep hb1)).mono ?_
  rintro e w2 ⟨x2, rfl, g2, hb2⟩
  go_wp2_with fail
  first | (with_reducible refine (Add_no2 x1 x2 l HL.out _ (take_isNum HX.out) (bounds_take HB2.out) _ (g1.keep hb2) g2).mono ?_) | refine (Add_no2 x1 x2 l HL.out _ (take_isNum HX.out) (bounds_take HB2.out) _ (g1.keep hb2) g2).mono ?_
  rintro e _ ⟨rfl, rfl⟩
  go_wp2_with fail
  first | (with_reducible refine (list_num v1 l HL.out _ (H1.out.keep (hb1.trans (hb2.mono hb1.size)))).mono ?_) | refine (list_num v1 l HL.out _ (H1.out.keep (hb1.trans (hb2.mono hb1.size)))).mono ?_
  rintro e w3 ⟨x3, rfl, g3, hb3⟩
  go_wp2_with fail
  first | (with_reducible refine (list_small v2 ys _ (H2.out.keep ((hb1.trans (hb2.mono hb1.size)).trans (hb3.mono (hb1.trans (hb2.mono hb1.size)).size)))).mono ?_) | refine (list_small v2 ys _ (H2.out.keep ((hb1.trans (hb2.mono hb1.size)).trans (hb3.mono (hb1.trans (hb2.mono hb1.size)).size)))).mono ?_
  rintro e w4 ⟨x4, rfl, g4, hb4⟩
  go_wp2_with fail
  first | (with_reducible refine (Less_no2 x3 x4 l HL.out _ (take_isNum HX.out) (bounds_take HB2.out) _ (g3.keep hb4) g4).mono ?_) | refine (Less_no2 x3 x4 l HL.out _ (take_isNum HX.out) (bounds_take HB2.out) _ (g3.keep hb4) g4).mono ?_
  rintro e _ ⟨rfl, rfl⟩
  go_wp2_with fail
  first | (with_reducible refine (rValid_yes v1 l HL.out _ (H1.out.keep (((hb1.trans (hb2.mono hb1.size)).trans (hb3.mono (hb1.trans (hb2.mono hb1.size)).size)).trans (hb4.mono ((hb1.trans (hb2.mono hb1.size)).trans (hb3.mono (hb1.trans (hb2.mono hb1.size)).size)).size)))).mono ?_) | refine (rValid_yes v1 l HL.out _ (H1.out.keep (((hb1.trans (hb2.mono hb1.size)).trans (hb3.mono (hb1.trans (hb2.mono hb1.size)).size)).trans (hb4.mono ((hb1.trans (hb2.mono hb1.size)).trans (hb3.mono (hb1.trans (hb2.mono hb1.size)).size)).size)))).mono ?_
  rintro e _ ⟨rfl, rfl⟩
  go_wp2_with fail
  first | (with_reducible refine (rValid_no v2 ys HX.out HB2.out _ (H2.out.keep (((hb1.trans (hb2.mono hb1.size)).trans (hb3.mono (hb1.trans (hb2.mono hb1.size)).size)).trans (hb4.mono ((hb1.trans (hb2.mono hb1.size)).trans (hb3.mono (hb1.trans (hb2.mono hb1.size)).size)).size)))).mono ?_) | refine (rValid_no v2 ys HX.out HB2.out _ (H2.out.keep (((hb1.trans (hb2.mono hb1.size)).trans (hb3.mono (hb1.trans (hb2.mono hb1.size)).size)).trans (hb4.mono ((hb1.trans (hb2.mono hb1.size)).trans (hb3.mono (hb1.trans (hb2.mono hb1.size)).size)).size)))).mono ?_
  rintro e _ ⟨rfl, rfl⟩
  go_wp2_with fail
  first | (with_reducible refine (awake_any _).mono ?_) | refine (awake_any _).mono ?_
  rintro e w5 ⟨rfl, hb5⟩
  go_wp2
  go_ret
  exact ⟨rfl, ((((hb1.trans (hb2.mono hb1.size)).trans (hb3.mono (hb1.trans (hb2.mono hb1.size)).size)).trans (hb4.mono ((hb1.trans (hb2.mono hb1.size)).trans (hb3.mono (hb1.trans (hb2.mono hb1.size)).size)).size)).trans (hb5.mono (((hb1.trans (hb2.mono hb1.size)).trans (hb3.mono (hb1.trans (hb2.mono hb1.size)).size)).trans (hb4.mono ((hb1.trans (hb2.mono hb1.size)).trans (hb3.mono (hb1.trans (hb2.mono hb1.size)).size)).size)).size))⟩

set_option maxHeartbeats 4000000 in
theorem adds_yes_true (w : World) (v1 : Value) (l : List Nat) (h1 : Ints w v1 (ix l)) (hl : Falls 60 l) (v2 : Value) (m : List Nat) (h2 : Ints w v2 (ix m)) (hm : Falls 60 m) (hs : vsum F l + vsum F m ≤ 1000000000000) (hc : vsum F l < vsum F m)  :
    Calls Try.prog 13 #[v1, v2] w fun e w' => e = .returned (.bool true) ∧ Below w.heap.size w w' := by
  have H1 := Lib.hid h1; clear h1
  have HL := Lib.hid hl; clear hl
  have H2 := Lib.hid h2; clear h2
  have HM := Lib.hid hm; clear hm
  have HS := Lib.hid hs; clear hs
  have HML := Lib.hid (falls_mem HL.out)
  have HMM := Lib.hid (falls_mem HM.out)
  have HVL := Lib.hid (falls_vsum HL.out)
  have HVM := Lib.hid (falls_vsum HM.out)
  have hl0 := vs_zero l
  have hm0 := vs_zero m
  have hd : decide (vs 0 l < vs 0 m) = true := decide_eq_true (by omega)
  have HC := Lib.hid hc; clear hc
  clear hl0 hm0
  go_enter Try.func13, Try.ntmps13
  go_wp2_with fail
  first | (with_reducible refine (list_num v1 l HL.out _ (H1.out.keep (Below.refl _ _))).mono ?_) | refine (list_num v1 l HL.out _ (H1.out.keep (Below.refl _ _))).mono ?_
  rintro e w1 ⟨x1, rfl, g1, hb1⟩
  go_wp2_with fail
  first | (with_reducible refine (list_num v2 m HM.out _ (H2.out.keep hb1)).mono ?_) | refine (list_num v2 m HM.out _ (H2.out.keep hb1)).mono ?_
  rintro e w2 ⟨x2, rfl, g2, hb2⟩
  go_wp2_with fail
  first | (with_reducible refine (Add_yes x1 x2 l m HL.out HM.out HS.out _ (g1.keep hb2) g2).mono ?_) | refine (Add_yes x1 x2 l m HL.out HM.out HS.out _ (g1.keep hb2) g2).mono ?_
  rintro e w3 ⟨v3, rfl, g3, hb3⟩
  go_wp2_with fail
  first | (with_reducible refine (list_num v1 l HL.out _ (H1.out.keep ((hb1.trans (hb2.mono hb1.size)).trans (hb3.mono (hb1.trans (hb2.mono hb1.size)).size)))).mono ?_) | refine (list_num v1 l HL.out _ (H1.out.keep ((hb1.trans (hb2.mono hb1.size)).trans (hb3.mono (hb1.trans (hb2.mono hb1.size)).size)))).mono ?_
  rintro e w4 ⟨y1, rfl, e1, hb4⟩
  go_wp2_with fail
  first | (with_reducible refine (list_num v2 m HM.out _ (H2.out.keep (((hb1.trans (hb2.mono hb1.size)).trans (hb3.mono (hb1.trans (hb2.mono hb1.size)).size)).trans (hb4.mono ((hb1.trans (hb2.mono hb1.size)).trans (hb3.mono (hb1.trans (hb2.mono hb1.size)).size)).size)))).mono ?_) | refine (list_num v2 m HM.out _ (H2.out.keep (((hb1.trans (hb2.mono hb1.size)).trans (hb3.mono (hb1.trans (hb2.mono hb1.size)).size)).trans (hb4.mono ((hb1.trans (hb2.mono hb1.size)).trans (hb3.mono (hb1.trans (hb2.mono hb1.size)).size)).size)))).mono ?_
  rintro e w5 ⟨y2, rfl, e2, hb5⟩
  go_wp2_with fail
  first | (with_reducible refine (Less_true y1 y2 l m HL.out HM.out HC.out _ (e1.keep hb5) e2).mono ?_) | refine (Less_true y1 y2 l m HL.out HM.out HC.out _ (e1.keep hb5) e2).mono ?_
  rintro e _ ⟨rfl, rfl⟩
  go_wp2_with fail
  first | (with_reducible refine (rValid_yes v1 l HL.out _ (H1.out.keep ((((hb1.trans (hb2.mono hb1.size)).trans (hb3.mono (hb1.trans (hb2.mono hb1.size)).size)).trans (hb4.mono ((hb1.trans (hb2.mono hb1.size)).trans (hb3.mono (hb1.trans (hb2.mono hb1.size)).size)).size)).trans (hb5.mono (((hb1.trans (hb2.mono hb1.size)).trans (hb3.mono (hb1.trans (hb2.mono hb1.size)).size)).trans (hb4.mono ((hb1.trans (hb2.mono hb1.size)).trans (hb3.mono (hb1.trans (hb2.mono hb1.size)).size)).size)).size)))).mono ?_) | refine (rValid_yes v1 l HL.out _ (H1.out.keep ((((hb1.trans (hb2.mono hb1.size)).trans (hb3.mono (hb1.trans (hb2.mono hb1.size)).size)).trans (hb4.mono ((hb1.trans (hb2.mono hb1.size)).trans (hb3.mono (hb1.trans (hb2.mono hb1.size)).size)).size)).trans (hb5.mono (((hb1.trans (hb2.mono hb1.size)).trans (hb3.mono (hb1.trans (hb2.mono hb1.size)).size)).trans (hb4.mono ((hb1.trans (hb2.mono hb1.size)).trans (hb3.mono (hb1.trans (hb2.mono hb1.size)).size)).size)).size)))).mono ?_
  rintro e _ ⟨rfl, rfl⟩
  go_wp2_with fail
  first | (with_reducible refine (rValid_yes v2 m HM.out _ (H2.out.keep ((((hb1.trans (hb2.mono hb1.size)).trans (hb3.mono (hb1.trans (hb2.mono hb1.size)).size)).trans (hb4.mono ((hb1.trans (hb2.mono hb1.size)).trans (hb3.mono (hb1.trans (hb2.mono hb1.size)).size)).size)).trans (hb5.mono (((hb1.trans (hb2.mono hb1.size)).trans (hb3.mono (hb1.trans (hb2.mono hb1.size)).size)).trans (hb4.mono ((hb1.trans (hb2.mono hb1.size)).trans (hb3.mono (hb1.trans (hb2.mono hb1.size)).size)).size)).size)))).mono ?_) | refine (rValid_yes v2 m HM.out _ (H2.out.keep ((((hb1.trans (hb2.mono hb1.size)).trans (hb3.mono (hb1.trans (hb2.mono hb1.size)).size)).trans (hb4.mono ((hb1.trans (hb2.mono hb1.size)).trans (hb3.mono (hb1.trans (hb2.mono hb1.size)).size)).size)).trans (hb5.mono (((hb1.trans (hb2.mono hb1.size)).trans (hb3.mono (hb1.trans (hb2.mono hb1.size)).size)).trans (hb4.mono ((hb1.trans (hb2.mono hb1.size)).trans (hb3.mono (hb1.trans (hb2.mono hb1.size)).size)).size)).size)))).mono ?_
  rintro e _ ⟨rfl, rfl⟩
  go_wp2_with fail
  first | (with_reducible refine (rAdd_yes v1 v2 l m HL.out HM.out HS.out _ (H1.out.keep ((((hb1.trans (hb2.mono hb1.size)).trans (hb3.mono (hb1.trans (hb2.mono hb1.size)).size)).trans (hb4.mono ((hb1.trans (hb2.mono hb1.size)).trans (hb3.mono (hb1.trans (hb2.mono hb1.size)).size)).size)).trans (hb5.mono (((hb1.trans (hb2.mono hb1.size)).trans (hb3.mono (hb1.trans (hb2.mono hb1.size)).size)).trans (hb4.mono ((hb1.trans (hb2.mono hb1.size)).trans (hb3.mono (hb1.trans (hb2.mono hb1.size)).size)).size)).size))) (H2.out.keep ((((hb1.trans (hb2.mono hb1.size)).trans (hb3.mono (hb1.trans (hb2.mono hb1.size)).size)).trans (hb4.mono ((hb1.trans (hb2.mono hb1.size)).trans (hb3.mono (hb1.trans (hb2.mono hb1.size)).size)).size)).trans (hb5.mono (((hb1.trans (hb2.mono hb1.size)).trans (hb3.mono (hb1.trans (hb2.mono hb1.size)).size)).trans (hb4.mono ((hb1.trans (hb2.mono hb1.size)).trans (hb3.mono (hb1.trans (hb2.mono hb1.size)).size)).size)).size)))).mono ?_) | refine (rAdd_yes v1 v2 l m HL.out HM.out HS.out _ (H1.out.keep ((((hb1.trans (hb2.mono hb1.size)).trans (hb3.mono (hb1.trans (hb2.mono hb1.size)).size)).trans (hb4.mono ((hb1.trans (hb2.mono hb1.size)).trans (hb3.mono (hb1.trans (hb2.mono hb1.size)).size)).size)).trans (hb5.mono (((hb1.trans (hb2.mono hb1.size)).trans (hb3.mono (hb1.trans (hb2.mono hb1.size)).size)).trans (hb4.mono ((hb1.trans (hb2.mono hb1.size)).trans (hb3.mono (hb1.trans (hb2.mono hb1.size)).size)).size)).size))) (H2.out.keep ((((hb1.trans (hb2.mono hb1.size)).trans (hb3.mono (hb1.trans (hb2.mono hb1.size)).size)).trans (hb4.mono ((hb1.trans (hb2.mono hb1.size)).trans (hb3.mono (hb1.trans (hb2.mono hb1.size)).size)).size)).trans (hb5.mono (((hb1.trans (hb2.mono hb1.size)).trans (hb3.mono (hb1.trans (hb2.mono hb1.size)).size)).trans (hb4.mono ((hb1.trans (hb2.mono hb1.size)).trans (hb3.mono (hb1.trans (hb2.mono hb1.size)).size)).size)).size)))).mono ?_
  rintro e w6 ⟨v4, rfl, g4, hb6⟩
  go_wp2_with fail
  first | (with_reducible refine (equal_yes v3 v4 _ _ (g3.keep ((hb4.trans (hb5.mono hb4.size)).trans (hb6.mono (hb4.trans (hb5.mono hb4.size)).size))) g4).mono ?_) | refine (equal_yes v3 v4 _ _ (g3.keep ((hb4.trans (hb5.mono hb4.size)).trans (hb6.mono (hb4.trans (hb5.mono hb4.size)).size))) g4).mono ?_
  rintro e w7 ⟨rfl, hb7⟩
  go_wp2_with fail
  first | (with_reducible refine (rValue_any v1 l HML.out (by have := HVL.out; omega) _ (H1.out.keep ((((((hb1.trans (hb2.mono hb1.size)).trans (hb3.mono (hb1.trans (hb2.mono hb1.size)).size)).trans (hb4.mono ((hb1.trans (hb2.mono hb1.size)).trans (hb3.mono (hb1.trans (hb2.mono hb1.size)).size)).size)).trans (hb5.mono (((hb1.trans (hb2.mono hb1.size)).trans (hb3.mono (hb1.trans (hb2.mono hb1.size)).size)).trans (hb4.mono ((hb1.trans (hb2.mono hb1.size)).trans (hb3.mono (hb1.trans (hb2.mono hb1.size)).size)).size)).size)).trans (hb6.mono ((((hb1.trans (hb2.mono hb1.size)).trans (hb3.mono (hb1.trans (hb2.mono hb1.size)).size)).trans (hb4.mono ((hb1.trans (hb2.mono hb1.size)).trans (hb3.mono (hb1.trans (hb2.mono hb1.size)).size)).size)).trans (hb5.mono (((hb1.trans (hb2.mono hb1.size)).trans (hb3.mono (hb1.trans (hb2.mono hb1.size)).size)).trans (hb4.mono ((hb1.trans (hb2.mono hb1.size)).trans (hb3.mono (hb1.trans (hb2.mono hb1.size)).size)).size)).size)).size)).trans (hb7.mono (((((hb1.trans (hb2.mono hb1.size)).trans (hb3.mono (hb1.trans (hb2.mono hb1.size)).size)).trans (hb4.mono ((hb1.trans (hb2.mono hb1.size)).trans (hb3.mono (hb1.trans (hb2.mono hb1.size)).size)).size)).trans (hb5.mono (((hb1.trans (hb2.mono hb1.size)).trans (hb3.mono (hb1.trans (hb2.mono hb1.size)).size)).trans (hb4.mono ((hb1.trans (hb2.mono hb1.size)).trans (hb3.mono (hb1.trans (hb2.mono hb1.size)).size)).size)).size)).trans (hb6.mono ((((hb1.trans (hb2.mono hb1.size)).trans (hb3.mono (hb1.trans (hb2.mono hb1.size)).size)).trans (hb4.mono ((hb1.trans (hb2.mono hb1.size)).trans (hb3.mono (hb1.trans (hb2.mono hb1.size)).size)).size)).trans (hb5.mono (((hb1.trans (hb2.mono hb1.size)).trans (hb3.mono (hb1.trans (hb2.mono hb1.size)).size)).trans (hb4.mono ((hb1.trans (hb2.mono hb1.size)).trans (hb3.mono (hb1.trans (hb2.mono hb1.size)).size)).size)).size)).size)).size)))).mono ?_) | refine (rValue_any v1 l HML.out (by have := HVL.out; omega) _ (H1.out.keep ((((((hb1.trans (hb2.mono hb1.size)).trans (hb3.mono (hb1.trans (hb2.mono hb1.size)).size)).trans (hb4.mono ((hb1.trans (hb2.mono hb1.size)).trans (hb3.mono (hb1.trans (hb2.mono hb1.size)).size)).size)).trans (hb5.mono (((hb1.trans (hb2.mono hb1.size)).trans (hb3.mono (hb1.trans (hb2.mono hb1.size)).size)).trans (hb4.mono ((hb1.trans (hb2.mono hb1.size)).trans (hb3.mono (hb1.trans (hb2.mono hb1.size)).size)).size)).size)).trans (hb6.mono ((((hb1.trans (hb2.mono hb1.size)).trans (hb3.mono (hb1.trans (hb2.mono hb1.size)).size)).trans (hb4.mono ((hb1.trans (hb2.mono hb1.size)).trans (hb3.mono (hb1.trans (hb2.mono hb1.size)).size)).size)).trans (hb5.mono (((hb1.trans (hb2.mono hb1.size)).trans (hb3.mono (hb1.trans (hb2.mono hb1.size)).size)).trans (hb4.mono ((hb1.trans (hb2.mono hb1.size)).trans (hb3.mono (hb1.trans (hb2.mono hb1.size)).size)).size)).size)).size)).trans (hb7.mono (((((hb1.trans (hb2.mono hb1.size)).trans (hb3.mono (hb1.trans (hb2.mono hb1.size)).size)).trans (hb4.mono ((hb1.trans (hb2.mono hb1.size)).trans (hb3.mono (hb1.trans (hb2.mono hb1.size)).size)).size)).trans (hb5.mono (((hb1.trans (hb2.mono hb1.size)).trans (hb3.mono (hb1.trans (hb2.mono hb1.size)).size)).trans (hb4.mono ((hb1.trans (hb2.mono hb1.size)).trans (hb3.mono (hb1.trans (hb2.mono hb1.size)).size)).size)).size)).trans (hb6.mono ((((hb1.trans (hb2.mono hb1.size)).trans (hb3.mono (hb1.trans (hb2.mono hb1.size)).size)).trans (hb4.mono ((hb1.trans (hb2.mono hb1.size)).trans (hb3.mono (hb1.trans (hb2.mono hb1.size)).size)).size)).trans (hb5.mono (((hb1.trans (hb2.mono hb1.size)).trans (hb3.mono (hb1.trans (hb2.mono hb1.size)).size)).trans (hb4.mono ((hb1.trans (hb2.mono hb1.size)).trans (hb3.mono (hb1.trans (hb2.mono hb1.size)).size)).size)).size)).size)).size)))).mono ?_
  rintro e _ ⟨rfl, rfl⟩
  go_wp2_with fail
  first | (with_reducible refine (rValue_any v2 m HMM.out (by have := HVM.out; omega) _ (H2.out.keep ((((((hb1.trans (hb2.mono hb1.size)).trans (hb3.mono (hb1.trans (hb2.mono hb1.size)).size)).trans (hb4.mono ((hb1.trans (hb2.mono hb1.size)).trans (hb3.mono (hb1.trans (hb2.mono hb1.size)).size)).size)).trans (hb5.mono (((hb1.trans (hb2.mono hb1.size)).trans (hb3.mono (hb1.trans (hb2.mono hb1.size)).size)).trans (hb4.mono ((hb1.trans (hb2.mono hb1.size)).trans (hb3.mono (hb1.trans (hb2.mono hb1.size)).size)).size)).size)).trans (hb6.mono ((((hb1.trans (hb2.mono hb1.size)).trans (hb3.mono (hb1.trans (hb2.mono hb1.size)).size)).trans (hb4.mono ((hb1.trans (hb2.mono hb1.size)).trans (hb3.mono (hb1.trans (hb2.mono hb1.size)).size)).size)).trans (hb5.mono (((hb1.trans (hb2.mono hb1.size)).trans (hb3.mono (hb1.trans (hb2.mono hb1.size)).size)).trans (hb4.mono ((hb1.trans (hb2.mono hb1.size)).trans (hb3.mono (hb1.trans (hb2.mono hb1.size)).size)).size)).size)).size)).trans (hb7.mono (((((hb1.trans (hb2.mono hb1.size)).trans (hb3.mono (hb1.trans (hb2.mono hb1.size)).size)).trans (hb4.mono ((hb1.trans (hb2.mono hb1.size)).trans (hb3.mono (hb1.trans (hb2.mono hb1.size)).size)).size)).trans (hb5.mono (((hb1.trans (hb2.mono hb1.size)).trans (hb3.mono (hb1.trans (hb2.mono hb1.size)).size)).trans (hb4.mono ((hb1.trans (hb2.mono hb1.size)).trans (hb3.mono (hb1.trans (hb2.mono hb1.size)).size)).size)).size)).trans (hb6.mono ((((hb1.trans (hb2.mono hb1.size)).trans (hb3.mono (hb1.trans (hb2.mono hb1.size)).size)).trans (hb4.mono ((hb1.trans (hb2.mono hb1.size)).trans (hb3.mono (hb1.trans (hb2.mono hb1.size)).size)).size)).trans (hb5.mono (((hb1.trans (hb2.mono hb1.size)).trans (hb3.mono (hb1.trans (hb2.mono hb1.size)).size)).trans (hb4.mono ((hb1.trans (hb2.mono hb1.size)).trans (hb3.mono (hb1.trans (hb2.mono hb1.size)).size)).size)).size)).size)).size)))).mono ?_) | refine (rValue_any v2 m HMM.out (by have := HVM.out; omega) _ (H2.out.keep ((((((hb1.trans (hb2.mono hb1.size)).trans (hb3.mono (hb1.trans (hb2.mono hb1.size)).size)).trans (hb4.mono ((hb1.trans (hb2.mono hb1.size)).trans (hb3.mono (hb1.trans (hb2.mono hb1.size)).size)).size)).trans (hb5.mono (((hb1.trans (hb2.mono hb1.size)).trans (hb3.mono (hb1.trans (hb2.mono hb1.size)).size)).trans (hb4.mono ((hb1.trans (hb2.mono hb1.size)).trans (hb3.mono (hb1.trans (hb2.mono hb1.size)).size)).size)).size)).trans (hb6.mono ((((hb1.trans (hb2.mono hb1.size)).trans (hb3.mono (hb1.trans (hb2.mono hb1.size)).size)).trans (hb4.mono ((hb1.trans (hb2.mono hb1.size)).trans (hb3.mono (hb1.trans (hb2.mono hb1.size)).size)).size)).trans (hb5.mono (((hb1.trans (hb2.mono hb1.size)).trans (hb3.mono (hb1.trans (hb2.mono hb1.size)).size)).trans (hb4.mono ((hb1.trans (hb2.mono hb1.size)).trans (hb3.mono (hb1.trans (hb2.mono hb1.size)).size)).size)).size)).size)).trans (hb7.mono (((((hb1.trans (hb2.mono hb1.size)).trans (hb3.mono (hb1.trans (hb2.mono hb1.size)).size)).trans (hb4.mono ((hb1.trans (hb2.mono hb1.size)).trans (hb3.mono (hb1.trans (hb2.mono hb1.size)).size)).size)).trans (hb5.mono (((hb1.trans (hb2.mono hb1.size)).trans (hb3.mono (hb1.trans (hb2.mono hb1.size)).size)).trans (hb4.mono ((hb1.trans (hb2.mono hb1.size)).trans (hb3.mono (hb1.trans (hb2.mono hb1.size)).size)).size)).size)).trans (hb6.mono ((((hb1.trans (hb2.mono hb1.size)).trans (hb3.mono (hb1.trans (hb2.mono hb1.size)).size)).trans (hb4.mono ((hb1.trans (hb2.mono hb1.size)).trans (hb3.mono (hb1.trans (hb2.mono hb1.size)).size)).size)).trans (hb5.mono (((hb1.trans (hb2.mono hb1.size)).trans (hb3.mono (hb1.trans (hb2.mono hb1.size)).size)).trans (hb4.mono ((hb1.trans (hb2.mono hb1.size)).trans (hb3.mono (hb1.trans (hb2.mono hb1.size)).size)).size)).size)).size)).size)))).mono ?_
  rintro e _ ⟨rfl, rfl⟩
  go_wp2_with fail
  first | (with_reducible refine (awake_any _).mono ?_) | refine (awake_any _).mono ?_
  rintro e w8 ⟨rfl, hb8⟩
  go_wp2
  go_ret
  exact ⟨rfl, (((((((hb1.trans (hb2.mono hb1.size)).trans (hb3.mono (hb1.trans (hb2.mono hb1.size)).size)).trans (hb4.mono ((hb1.trans (hb2.mono hb1.size)).trans (hb3.mono (hb1.trans (hb2.mono hb1.size)).size)).size)).trans (hb5.mono (((hb1.trans (hb2.mono hb1.size)).trans (hb3.mono (hb1.trans (hb2.mono hb1.size)).size)).trans (hb4.mono ((hb1.trans (hb2.mono hb1.size)).trans (hb3.mono (hb1.trans (hb2.mono hb1.size)).size)).size)).size)).trans (hb6.mono ((((hb1.trans (hb2.mono hb1.size)).trans (hb3.mono (hb1.trans (hb2.mono hb1.size)).size)).trans (hb4.mono ((hb1.trans (hb2.mono hb1.size)).trans (hb3.mono (hb1.trans (hb2.mono hb1.size)).size)).size)).trans (hb5.mono (((hb1.trans (hb2.mono hb1.size)).trans (hb3.mono (hb1.trans (hb2.mono hb1.size)).size)).trans (hb4.mono ((hb1.trans (hb2.mono hb1.size)).trans (hb3.mono (hb1.trans (hb2.mono hb1.size)).size)).size)).size)).size)).trans (hb7.mono (((((hb1.trans (hb2.mono hb1.size)).trans (hb3.mono (hb1.trans (hb2.mono hb1.size)).size)).trans (hb4.mono ((hb1.trans (hb2.mono hb1.size)).trans (hb3.mono (hb1.trans (hb2.mono hb1.size)).size)).size)).trans (hb5.mono (((hb1.trans (hb2.mono hb1.size)).trans (hb3.mono (hb1.trans (hb2.mono hb1.size)).size)).trans (hb4.mono ((hb1.trans (hb2.mono hb1.size)).trans (hb3.mono (hb1.trans (hb2.mono hb1.size)).size)).size)).size)).trans (hb6.mono ((((hb1.trans (hb2.mono hb1.size)).trans (hb3.mono (hb1.trans (hb2.mono hb1.size)).size)).trans (hb4.mono ((hb1.trans (hb2.mono hb1.size)).trans (hb3.mono (hb1.trans (hb2.mono hb1.size)).size)).size)).trans (hb5.mono (((hb1.trans (hb2.mono hb1.size)).trans (hb3.mono (hb1.trans (hb2.mono hb1.size)).size)).trans (hb4.mono ((hb1.trans (hb2.mono hb1.size)).trans (hb3.mono (hb1.trans (hb2.mono hb1.size)).size)).size)).size)).size)).size)).trans (hb8.mono ((((((hb1.trans (hb2.mono hb1.size)).trans (hb3.mono (hb1.trans (hb2.mono hb1.size)).size)).trans (hb4.mono ((hb1.trans (hb2.mono hb1.size)).trans (hb3.mono (hb1.trans (hb2.mono hb1.size)).size)).size)).trans (hb5.mono (((hb1.trans (hb2.mono hb1.size)).trans (hb3.mono (hb1.trans (hb2.mono hb1.size)).size)).trans (hb4.mono ((hb1.trans (hb2.mono hb1.size)).trans (hb3.mono (hb1.trans (hb2.mono hb1.size)).size)).size)).size)).trans (hb6.mono ((((hb1.trans (hb2.mono hb1.size)).trans (hb3.mono (hb1.trans (hb2.mono hb1.size)).size)).trans (hb4.mono ((hb1.trans (hb2.mono hb1.size)).trans (hb3.mono (hb1.trans (hb2.mono hb1.size)).size)).size)).trans (hb5.mono (((hb1.trans (hb2.mono hb1.size)).trans (hb3.mono (hb1.trans (hb2.mono hb1.size)).size)).trans (hb4.mono ((hb1.trans (hb2.mono hb1.size)).trans (hb3.mono (hb1.trans (hb2.mono hb1.size)).size)).size)).size)).size)).trans (hb7.mono (((((hb1.trans (hb2.mono hb1.size)).trans (hb3.mono (hb1.trans (hb2.mono hb1.size)).size)).trans (hb4.mono ((hb1.trans (hb2.mono hb1.size)).trans (hb3.mono (hb1.trans (hb2.mono hb1.size)).size)).size)).trans (hb5.mono (((hb1.trans (hb2.mono hb1.size)).trans (hb3.mono (hb1.trans (hb2.mono hb1.size)).size)).trans (hb4.mono ((hb1.trans (hb2.mono hb1.size)).trans (hb3.mono (hb1.trans (hb2.mono hb1.size)).size)).size)).size)).trans (hb6.mono ((((hb1.trans (hb2.mono hb1.size)).trans (hb3.mono (hb1.trans (hb2.mono hb1.size)).size)).trans (hb4.mono ((hb1.trans (hb2.mono hb1.size)).trans (hb3.mono (hb1.trans (hb2.mono hb1.size)).size)).size)).trans (hb5.mono (((hb1.trans (hb2.mono hb1.size)).trans (hb3.mono (hb1.trans (hb2.mono hb1.size)).size)).trans (hb4.mono ((hb1.trans (hb2.mono hb1.size)).trans (hb3.mono (hb1.trans (hb2.mono hb1.size)).size)).size)).size)).size)).size)).size))⟩

set_option maxHeartbeats 4000000 in
theorem adds_yes_false (w : World) (v1 : Value) (l : List Nat) (h1 : Ints w v1 (ix l)) (hl : Falls 60 l) (v2 : Value) (m : List Nat) (h2 : Ints w v2 (ix m)) (hm : Falls 60 m) (hs : vsum F l + vsum F m ≤ 1000000000000) (hc : ¬ vsum F l < vsum F m)  :
    Calls Try.prog 13 #[v1, v2] w fun e w' => e = .returned (.bool true) ∧ Below w.heap.size w w' := by
  have H1 := Lib.hid h1; clear h1
  have HL := Lib.hid hl; clear hl
  have H2 := Lib.hid h2; clear h2
  have HM := Lib.hid hm; clear hm
  have HS := Lib.hid hs; clear hs
  have HML := Lib.hid (falls_mem HL.out)
  have HMM := Lib.hid (falls_mem HM.out)
  have HVL := Lib.hid (falls_vsum HL.out)
  have HVM := Lib.hid (falls_vsum HM.out)
  have hl0 := vs_zero l
  have hm0 := vs_zero m
  have hd : decide (vs 0 l < vs 0 m) = false := decide_eq_false (by omega)
  have HC := Lib.hid hc; clear hc
  clear hl0 hm0
  go_enter Try.func13, Try.ntmps13
  go_wp2_with fail
  first | (with_reducible refine (list_num v1 l HL.out _ (H1.out.keep (Below.refl _ _))).mono ?_) | refine (list_num v1 l HL.out _ (H1.out.keep (Below.refl _ _))).mono ?_
  rintro e w1 ⟨x1, rfl, g1, hb1⟩
  go_wp2_with fail
  first | (with_reducible refine (list_num v2 m HM.out _ (H2.out.keep hb1)).mono ?_) | refine (list_num v2 m HM.out _ (H2.out.keep hb1)).mono ?_
  rintro e w2 ⟨x2, rfl, g2, hb2⟩
  go_wp2_with fail
  first | (with_reducible refine (Add_yes x1 x2 l m HL.out HM.out HS.out _ (g1.keep hb2) g2).mono ?_) | refine (Add_yes x1 x2 l m HL.out HM.out HS.out _ (g1.keep hb2) g2).mono ?_
  rintro e w3 ⟨v3, rfl, g3, hb3⟩
  go_wp2_with fail
  first | (with_reducible refine (list_num v1 l HL.out _ (H1.out.keep ((hb1.trans (hb2.mono hb1.size)).trans (hb3.mono (hb1.trans (hb2.mono hb1.size)).size)))).mono ?_) | refine (list_num v1 l HL.out _ (H1.out.keep ((hb1.trans (hb2.mono hb1.size)).trans (hb3.mono (hb1.trans (hb2.mono hb1.size)).size)))).mono ?_
  rintro e w4 ⟨y1, rfl, e1, hb4⟩
  go_wp2_with fail
  first | (with_reducible refine (list_num v2 m HM.out _ (H2.out.keep (((hb1.trans (hb2.mono hb1.size)).trans (hb3.mono (hb1.trans (hb2.mono hb1.size)).size)).trans (hb4.mono ((hb1.trans (hb2.mono hb1.size)).trans (hb3.mono (hb1.trans (hb2.mono hb1.size)).size)).size)))).mono ?_) | refine (list_num v2 m HM.out _ (H2.out.keep (((hb1.trans (hb2.mono hb1.size)).trans (hb3.mono (hb1.trans (hb2.mono hb1.size)).size)).trans (hb4.mono ((hb1.trans (hb2.mono hb1.size)).trans (hb3.mono (hb1.trans (hb2.mono hb1.size)).size)).size)))).mono ?_
  rintro e w5 ⟨y2, rfl, e2, hb5⟩
  go_wp2_with fail
  first | (with_reducible refine (Less_false y1 y2 l m HL.out HM.out HC.out _ (e1.keep hb5) e2).mono ?_) | refine (Less_false y1 y2 l m HL.out HM.out HC.out _ (e1.keep hb5) e2).mono ?_
  rintro e _ ⟨rfl, rfl⟩
  go_wp2_with fail
  first | (with_reducible refine (rValid_yes v1 l HL.out _ (H1.out.keep ((((hb1.trans (hb2.mono hb1.size)).trans (hb3.mono (hb1.trans (hb2.mono hb1.size)).size)).trans (hb4.mono ((hb1.trans (hb2.mono hb1.size)).trans (hb3.mono (hb1.trans (hb2.mono hb1.size)).size)).size)).trans (hb5.mono (((hb1.trans (hb2.mono hb1.size)).trans (hb3.mono (hb1.trans (hb2.mono hb1.size)).size)).trans (hb4.mono ((hb1.trans (hb2.mono hb1.size)).trans (hb3.mono (hb1.trans (hb2.mono hb1.size)).size)).size)).size)))).mono ?_) | refine (rValid_yes v1 l HL.out _ (H1.out.keep ((((hb1.trans (hb2.mono hb1.size)).trans (hb3.mono (hb1.trans (hb2.mono hb1.size)).size)).trans (hb4.mono ((hb1.trans (hb2.mono hb1.size)).trans (hb3.mono (hb1.trans (hb2.mono hb1.size)).size)).size)).trans (hb5.mono (((hb1.trans (hb2.mono hb1.size)).trans (hb3.mono (hb1.trans (hb2.mono hb1.size)).size)).trans (hb4.mono ((hb1.trans (hb2.mono hb1.size)).trans (hb3.mono (hb1.trans (hb2.mono hb1.size)).size)).size)).size)))).mono ?_
  rintro e _ ⟨rfl, rfl⟩
  go_wp2_with fail
  first | (with_reducible refine (rValid_yes v2 m HM.out _ (H2.out.keep ((((hb1.trans (hb2.mono hb1.size)).trans (hb3.mono (hb1.trans (hb2.mono hb1.size)).size)).trans (hb4.mono ((hb1.trans (hb2.mono hb1.size)).trans (hb3.mono (hb1.trans (hb2.mono hb1.size)).size)).size)).trans (hb5.mono (((hb1.trans (hb2.mono hb1.size)).trans (hb3.mono (hb1.trans (hb2.mono hb1.size)).size)).trans (hb4.mono ((hb1.trans (hb2.mono hb1.size)).trans (hb3.mono (hb1.trans (hb2.mono hb1.size)).size)).size)).size)))).mono ?_) | refine (rValid_yes v2 m HM.out _ (H2.out.keep ((((hb1.trans (hb2.mono hb1.size)).trans (hb3.mono (hb1.trans (hb2.mono hb1.size)).size)).trans (hb4.mono ((hb1.trans (hb2.mono hb1.size)).trans (hb3.mono (hb1.trans (hb2.mono hb1.size)).size)).size)).trans (hb5.mono (((hb1.trans (hb2.mono hb1.size)).trans (hb3.mono (hb1.trans (hb2.mono hb1.size)).size)).trans (hb4.mono ((hb1.trans (hb2.mono hb1.size)).trans (hb3.mono (hb1.trans (hb2.mono hb1.size)).size)).size)).size)))).mono ?_
  rintro e _ ⟨rfl, rfl⟩
  go_wp2_with fail
  first | (with_reducible refine (rAdd_yes v1 v2 l m HL.out HM.out HS.out _ (H1.out.keep ((((hb1.trans (hb2.mono hb1.size)).trans (hb3.mono (hb1.trans (hb2.mono hb1.size)).size)).trans (hb4.mono ((hb1.trans (hb2.mono hb1.size)).trans (hb3.mono (hb1.trans (hb2.mono hb1.size)).size)).size)).trans (hb5.mono (((hb1.trans (hb2.mono hb1.size)).trans (hb3.mono (hb1.trans (hb2.mono hb1.size)).size)).trans (hb4.mono ((hb1.trans (hb2.mono hb1.size)).trans (hb3.mono (hb1.trans (hb2.mono hb1.size)).size)).size)).size))) (H2.out.keep ((((hb1.trans (hb2.mono hb1.size)).trans (hb3.mono (hb1.trans (hb2.mono hb1.size)).size)).trans (hb4.mono ((hb1.trans (hb2.mono hb1.size)).trans (hb3.mono (hb1.trans (hb2.mono hb1.size)).size)).size)).trans (hb5.mono (((hb1.trans (hb2.mono hb1.size)).trans (hb3.mono (hb1.trans (hb2.mono hb1.size)).size)).trans (hb4.mono ((hb1.trans (hb2.mono hb1.size)).trans (hb3.mono (hb1.trans (hb2.mono hb1.size)).size)).size)).size)))).mono ?_) | refine (rAdd_yes v1 v2 l m HL.out HM.out HS.out _ (H1.out.keep ((((hb1.trans (hb2.mono hb1.size)).trans (hb3.mono (hb1.trans (hb2.mono hb1.size)).size)).trans (hb4.mono ((hb1.trans (hb2.mono hb1.size)).trans (hb3.mono (hb1.trans (hb2.mono hb1.size)).size)).size)).trans (hb5.mono (((hb1.trans (hb2.mono hb1.size)).trans (hb3.mono (hb1.trans (hb2.mono hb1.size)).size)).trans (hb4.mono ((hb1.trans (hb2.mono hb1.size)).trans (hb3.mono (hb1.trans (hb2.mono hb1.size)).size)).size)).size))) (H2.out.keep ((((hb1.trans (hb2.mono hb1.size)).trans (hb3.mono (hb1.trans (hb2.mono hb1.size)).size)).trans (hb4.mono ((hb1.trans (hb2.mono hb1.size)).trans (hb3.mono (hb1.trans (hb2.mono hb1.size)).size)).size)).trans (hb5.mono (((hb1.trans (hb2.mono hb1.size)).trans (hb3.mono (hb1.trans (hb2.mono hb1.size)).size)).trans (hb4.mono ((hb1.trans (hb2.mono hb1.size)).trans (hb3.mono (hb1.trans (hb2.mono hb1.size)).size)).size)).size)))).mono ?_
  rintro e w6 ⟨v4, rfl, g4, hb6⟩
  go_wp2_with fail
  first | (with_reducible refine (equal_yes v3 v4 _ _ (g3.keep ((hb4.trans (hb5.mono hb4.size)).trans (hb6.mono (hb4.trans (hb5.mono hb4.size)).size))) g4).mono ?_) | refine (equal_yes v3 v4 _ _ (g3.keep ((hb4.trans (hb5.mono hb4.size)).trans (hb6.mono (hb4.trans (hb5.mono hb4.size)).size))) g4).mono ?_
  rintro e w7 ⟨rfl, hb7⟩
  go_wp2_with fail
  first | (with_reducible refine (rValue_any v1 l HML.out (by have := HVL.out; omega) _ (H1.out.keep ((((((hb1.trans (hb2.mono hb1.size)).trans (hb3.mono (hb1.trans (hb2.mono hb1.size)).size)).trans (hb4.mono ((hb1.trans (hb2.mono hb1.size)).trans (hb3.mono (hb1.trans (hb2.mono hb1.size)).size)).size)).trans (hb5.mono (((hb1.trans (hb2.mono hb1.size)).trans (hb3.mono (hb1.trans (hb2.mono hb1.size)).size)).trans (hb4.mono ((hb1.trans (hb2.mono hb1.size)).trans (hb3.mono (hb1.trans (hb2.mono hb1.size)).size)).size)).size)).trans (hb6.mono ((((hb1.trans (hb2.mono hb1.size)).trans (hb3.mono (hb1.trans (hb2.mono hb1.size)).size)).trans (hb4.mono ((hb1.trans (hb2.mono hb1.size)).trans (hb3.mono (hb1.trans (hb2.mono hb1.size)).size)).size)).trans (hb5.mono (((hb1.trans (hb2.mono hb1.size)).trans (hb3.mono (hb1.trans (hb2.mono hb1.size)).size)).trans (hb4.mono ((hb1.trans (hb2.mono hb1.size)).trans (hb3.mono (hb1.trans (hb2.mono hb1.size)).size)).size)).size)).size)).trans (hb7.mono (((((hb1.trans (hb2.mono hb1.size)).trans (hb3.mono (hb1.trans (hb2.mono hb1.size)).size)).trans (hb4.mono ((hb1.trans (hb2.mono hb1.size)).trans (hb3.mono (hb1.trans (hb2.mono hb1.size)).size)).size)).trans (hb5.mono (((hb1.trans (hb2.mono hb1.size)).trans (hb3.mono (hb1.trans (hb2.mono hb1.size)).size)).trans (hb4.mono ((hb1.trans (hb2.mono hb1.size)).trans (hb3.mono (hb1.trans (hb2.mono hb1.size)).size)).size)).size)).trans (hb6.mono ((((hb1.trans (hb2.mono hb1.size)).trans (hb3.mono (hb1.trans (hb2.mono hb1.size)).size)).trans (hb4.mono ((hb1.trans (hb2.mono hb1.size)).trans (hb3.mono (hb1.trans (hb2.mono hb1.size)).size)).size)).trans (hb5.mono (((hb1.trans (hb2.mono hb1.size)).trans (hb3.mono (hb1.trans (hb2.mono hb1.size)).size)).trans (hb4.mono ((hb1.trans (hb2.mono hb1.size)).trans (hb3.mono (hb1.trans (hb2.mono hb1.size)).size)).size)).size)).size)).size)))).mono ?_) | refine (rValue_any v1 l HML.out (by have := HVL.out; omega) _ (H1.out.keep ((((((hb1.trans (hb2.mono hb1.size)).trans (hb3.mono (hb1.trans (hb2.mono hb1.size)).size)).trans (hb4.mono ((hb1.trans (hb2.mono hb1.size)).trans (hb3.mono (hb1.trans (hb2.mono hb1.size)).size)).size)).trans (hb5.mono (((hb1.trans (hb2.mono hb1.size)).trans (hb3.mono (hb1.trans (hb2.mono hb1.size)).size)).trans (hb4.mono ((hb1.trans (hb2.mono hb1.size)).trans (hb3.mono (hb1.trans (hb2.mono hb1.size)).size)).size)).size)).trans (hb6.mono ((((hb1.trans (hb2.mono hb1.size)).trans (hb3.mono (hb1.trans (hb2.mono hb1.size)).size)).trans (hb4.mono ((hb1.trans (hb2.mono hb1.size)).trans (hb3.mono (hb1.trans (hb2.mono hb1.size)).size)).size)).trans (hb5.mono (((hb1.trans (hb2.mono hb1.size)).trans (hb3.mono (hb1.trans (hb2.mono hb1.size)).size)).trans (hb4.mono ((hb1.trans (hb2.mono hb1.size)).trans (hb3.mono (hb1.trans (hb2.mono hb1.size)).size)).size)).size)).size)).trans (hb7.mono (((((hb1.trans (hb2.mono hb1.size)).trans (hb3.mono (hb1.trans (hb2.mono hb1.size)).size)).trans (hb4.mono ((hb1.trans (hb2.mono hb1.size)).trans (hb3.mono (hb1.trans (hb2.mono hb1.size)).size)).size)).trans (hb5.mono (((hb1.trans (hb2.mono hb1.size)).trans (hb3.mono (hb1.trans (hb2.mono hb1.size)).size)).trans (hb4.mono ((hb1.trans (hb2.mono hb1.size)).trans (hb3.mono (hb1.trans (hb2.mono hb1.size)).size)).size)).size)).trans (hb6.mono ((((hb1.trans (hb2.mono hb1.size)).trans (hb3.mono (hb1.trans (hb2.mono hb1.size)).size)).trans (hb4.mono ((hb1.trans (hb2.mono hb1.size)).trans (hb3.mono (hb1.trans (hb2.mono hb1.size)).size)).size)).trans (hb5.mono (((hb1.trans (hb2.mono hb1.size)).trans (hb3.mono (hb1.trans (hb2.mono hb1.size)).size)).trans (hb4.mono ((hb1.trans (hb2.mono hb1.size)).trans (hb3.mono (hb1.trans (hb2.mono hb1.size)).size)).size)).size)).size)).size)))).mono ?_
  rintro e _ ⟨rfl, rfl⟩
  go_wp2_with fail
  first | (with_reducible refine (rValue_any v2 m HMM.out (by have := HVM.out; omega) _ (H2.out.keep ((((((hb1.trans (hb2.mono hb1.size)).trans (hb3.mono (hb1.trans (hb2.mono hb1.size)).size)).trans (hb4.mono ((hb1.trans (hb2.mono hb1.size)).trans (hb3.mono (hb1.trans (hb2.mono hb1.size)).size)).size)).trans (hb5.mono (((hb1.trans (hb2.mono hb1.size)).trans (hb3.mono (hb1.trans (hb2.mono hb1.size)).size)).trans (hb4.mono ((hb1.trans (hb2.mono hb1.size)).trans (hb3.mono (hb1.trans (hb2.mono hb1.size)).size)).size)).size)).trans (hb6.mono ((((hb1.trans (hb2.mono hb1.size)).trans (hb3.mono (hb1.trans (hb2.mono hb1.size)).size)).trans (hb4.mono ((hb1.trans (hb2.mono hb1.size)).trans (hb3.mono (hb1.trans (hb2.mono hb1.size)).size)).size)).trans (hb5.mono (((hb1.trans (hb2.mono hb1.size)).trans (hb3.mono (hb1.trans (hb2.mono hb1.size)).size)).trans (hb4.mono ((hb1.trans (hb2.mono hb1.size)).trans (hb3.mono (hb1.trans (hb2.mono hb1.size)).size)).size)).size)).size)).trans (hb7.mono (((((hb1.trans (hb2.mono hb1.size)).trans (hb3.mono (hb1.trans (hb2.mono hb1.size)).size)).trans (hb4.mono ((hb1.trans (hb2.mono hb1.size)).trans (hb3.mono (hb1.trans (hb2.mono hb1.size)).size)).size)).trans (hb5.mono (((hb1.trans (hb2.mono hb1.size)).trans (hb3.mono (hb1.trans (hb2.mono hb1.size)).size)).trans (hb4.mono ((hb1.trans (hb2.mono hb1.size)).trans (hb3.mono (hb1.trans (hb2.mono hb1.size)).size)).size)).size)).trans (hb6.mono ((((hb1.trans (hb2.mono hb1.size)).trans (hb3.mono (hb1.trans (hb2.mono hb1.size)).size)).trans (hb4.mono ((hb1.trans (hb2.mono hb1.size)).trans (hb3.mono (hb1.trans (hb2.mono hb1.size)).size)).size)).trans (hb5.mono (((hb1.trans (hb2.mono hb1.size)).trans (hb3.mono (hb1.trans (hb2.mono hb1.size)).size)).trans (hb4.mono ((hb1.trans (hb2.mono hb1.size)).trans (hb3.mono (hb1.trans (hb2.mono hb1.size)).size)).size)).size)).size)).size)))).mono ?_) | refine (rValue_any v2 m HMM.out (by have := HVM.out; omega) _ (H2.out.keep ((((((hb1.trans (hb2.mono hb1.size)).trans (hb3.mono (hb1.trans (hb2.mono hb1.size)).size)).trans (hb4.mono ((hb1.trans (hb2.mono hb1.size)).trans (hb3.mono (hb1.trans (hb2.mono hb1.size)).size)).size)).trans (hb5.mono (((hb1.trans (hb2.mono hb1.size)).trans (hb3.mono (hb1.trans (hb2.mono hb1.size)).size)).trans (hb4.mono ((hb1.trans (hb2.mono hb1.size)).trans (hb3.mono (hb1.trans (hb2.mono hb1.size)).size)).size)).size)).trans (hb6.mono ((((hb1.trans (hb2.mono hb1.size)).trans (hb3.mono (hb1.trans (hb2.mono hb1.size)).size)).trans (hb4.mono ((hb1.trans (hb2.mono hb1.size)).trans (hb3.mono (hb1.trans (hb2.mono hb1.size)).size)).size)).trans (hb5.mono (((hb1.trans (hb2.mono hb1.size)).trans (hb3.mono (hb1.trans (hb2.mono hb1.size)).size)).trans (hb4.mono ((hb1.trans (hb2.mono hb1.size)).trans (hb3.mono (hb1.trans (hb2.mono hb1.size)).size)).size)).size)).size)).trans (hb7.mono (((((hb1.trans (hb2.mono hb1.size)).trans (hb3.mono (hb1.trans (hb2.mono hb1.size)).size)).trans (hb4.mono ((hb1.trans (hb2.mono hb1.size)).trans (hb3.mono (hb1.trans (hb2.mono hb1.size)).size)).size)).trans (hb5.mono (((hb1.trans (hb2.mono hb1.size)).trans (hb3.mono (hb1.trans (hb2.mono hb1.size)).size)).trans (hb4.mono ((hb1.trans (hb2.mono hb1.size)).trans (hb3.mono (hb1.trans (hb2.mono hb1.size)).size)).size)).size)).trans (hb6.mono ((((hb1.trans (hb2.mono hb1.size)).trans (hb3.mono (hb1.trans (hb2.mono hb1.size)).size)).trans (hb4.mono ((hb1.trans (hb2.mono hb1.size)).trans (hb3.mono (hb1.trans (hb2.mono hb1.size)).size)).size)).trans (hb5.mono (((hb1.trans (hb2.mono hb1.size)).trans (hb3.mono (hb1.trans (hb2.mono hb1.size)).size)).trans (hb4.mono ((hb1.trans (hb2.mono hb1.size)).trans (hb3.mono (hb1.trans (hb2.mono hb1.size)).size)).size)).size)).size)).size)))).mono ?_
  rintro e _ ⟨rfl, rfl⟩
  go_wp2_with fail
  first | (with_reducible refine (awake_any _).mono ?_) | refine (awake_any _).mono ?_
  rintro e w8 ⟨rfl, hb8⟩
  go_wp2
  go_ret
  exact ⟨rfl, (((((((hb1.trans (hb2.mono hb1.size)).trans (hb3.mono (hb1.trans (hb2.mono hb1.size)).size)).trans (hb4.mono ((hb1.trans (hb2.mono hb1.size)).trans (hb3.mono (hb1.trans (hb2.mono hb1.size)).size)).size)).trans (hb5.mono (((hb1.trans (hb2.mono hb1.size)).trans (hb3.mono (hb1.trans (hb2.mono hb1.size)).size)).trans (hb4.mono ((hb1.trans (hb2.mono hb1.size)).trans (hb3.mono (hb1.trans (hb2.mono hb1.size)).size)).size)).size)).trans (hb6.mono ((((hb1.trans (hb2.mono hb1.size)).trans (hb3.mono (hb1.trans (hb2.mono hb1.size)).size)).trans (hb4.mono ((hb1.trans (hb2.mono hb1.size)).trans (hb3.mono (hb1.trans (hb2.mono hb1.size)).size)).size)).trans (hb5.mono (((hb1.trans (hb2.mono hb1.size)).trans (hb3.mono (hb1.trans (hb2.mono hb1.size)).size)).trans (hb4.mono ((hb1.trans (hb2.mono hb1.size)).trans (hb3.mono (hb1.trans (hb2.mono hb1.size)).size)).size)).size)).size)).trans (hb7.mono (((((hb1.trans (hb2.mono hb1.size)).trans (hb3.mono (hb1.trans (hb2.mono hb1.size)).size)).trans (hb4.mono ((hb1.trans (hb2.mono hb1.size)).trans (hb3.mono (hb1.trans (hb2.mono hb1.size)).size)).size)).trans (hb5.mono (((hb1.trans (hb2.mono hb1.size)).trans (hb3.mono (hb1.trans (hb2.mono hb1.size)).size)).trans (hb4.mono ((hb1.trans (hb2.mono hb1.size)).trans (hb3.mono (hb1.trans (hb2.mono hb1.size)).size)).size)).size)).trans (hb6.mono ((((hb1.trans (hb2.mono hb1.size)).trans (hb3.mono (hb1.trans (hb2.mono hb1.size)).size)).trans (hb4.mono ((hb1.trans (hb2.mono hb1.size)).trans (hb3.mono (hb1.trans (hb2.mono hb1.size)).size)).size)).trans (hb5.mono (((hb1.trans (hb2.mono hb1.size)).trans (hb3.mono (hb1.trans (hb2.mono hb1.size)).size)).trans (hb4.mono ((hb1.trans (hb2.mono hb1.size)).trans (hb3.mono (hb1.trans (hb2.mono hb1.size)).size)).size)).size)).size)).size)).trans (hb8.mono ((((((hb1.trans (hb2.mono hb1.size)).trans (hb3.mono (hb1.trans (hb2.mono hb1.size)).size)).trans (hb4.mono ((hb1.trans (hb2.mono hb1.size)).trans (hb3.mono (hb1.trans (hb2.mono hb1.size)).size)).size)).trans (hb5.mono (((hb1.trans (hb2.mono hb1.size)).trans (hb3.mono (hb1.trans (hb2.mono hb1.size)).size)).trans (hb4.mono ((hb1.trans (hb2.mono hb1.size)).trans (hb3.mono (hb1.trans (hb2.mono hb1.size)).size)).size)).size)).trans (hb6.mono ((((hb1.trans (hb2.mono hb1.size)).trans (hb3.mono (hb1.trans (hb2.mono hb1.size)).size)).trans (hb4.mono ((hb1.trans (hb2.mono hb1.size)).trans (hb3.mono (hb1.trans (hb2.mono hb1.size)).size)).size)).trans (hb5.mono (((hb1.trans (hb2.mono hb1.size)).trans (hb3.mono (hb1.trans (hb2.mono hb1.size)).size)).trans (hb4.mono ((hb1.trans (hb2.mono hb1.size)).trans (hb3.mono (hb1.trans (hb2.mono hb1.size)).size)).size)).size)).size)).trans (hb7.mono (((((hb1.trans (hb2.mono hb1.size)).trans (hb3.mono (hb1.trans (hb2.mono hb1.size)).size)).trans (hb4.mono ((hb1.trans (hb2.mono hb1.size)).trans (hb3.mono (hb1.trans (hb2.mono hb1.size)).size)).size)).trans (hb5.mono (((hb1.trans (hb2.mono hb1.size)).trans (hb3.mono (hb1.trans (hb2.mono hb1.size)).size)).trans (hb4.mono ((hb1.trans (hb2.mono hb1.size)).trans (hb3.mono (hb1.trans (hb2.mono hb1.size)).size)).size)).size)).trans (hb6.mono ((((hb1.trans (hb2.mono hb1.size)).trans (hb3.mono (hb1.trans (hb2.mono hb1.size)).size)).trans (hb4.mono ((hb1.trans (hb2.mono hb1.size)).trans (hb3.mono (hb1.trans (hb2.mono hb1.size)).size)).size)).trans (hb5.mono (((hb1.trans (hb2.mono hb1.size)).trans (hb3.mono (hb1.trans (hb2.mono hb1.size)).size)).trans (hb4.mono ((hb1.trans (hb2.mono hb1.size)).trans (hb3.mono (hb1.trans (hb2.mono hb1.size)).size)).size)).size)).size)).size)).size))⟩

set_option maxHeartbeats 4000000 in
theorem adds_big_true (w : World) (v1 : Value) (l : List Nat) (h1 : Ints w v1 (ix l)) (hl : Falls 60 l) (v2 : Value) (m : List Nat) (h2 : Ints w v2 (ix m)) (hm : Falls 60 m) (hs : 1000000000000 < vsum F l + vsum F m) (hc : vsum F l < vsum F m)  :
    Calls Try.prog 13 #[v1, v2] w fun e w' => e = .returned (.bool true) ∧ Below w.heap.size w w' := by
  have H1 := Lib.hid h1; clear h1
  have HL := Lib.hid hl; clear hl
  have H2 := Lib.hid h2; clear h2
  have HM := Lib.hid hm; clear hm
  have HS := Lib.hid hs; clear hs
  have HML := Lib.hid (falls_mem HL.out)
  have HMM := Lib.hid (falls_mem HM.out)
  have HVL := Lib.hid (falls_vsum HL.out)
  have HVM := Lib.hid (falls_vsum HM.out)
  have hl0 := vs_zero l
  have hm0 := vs_zero m
  have hd : decide (vs 0 l < vs 0 m) = true := decide_eq_true (by omega)
  have HC := Lib.hid hc; clear hc
  clear hl0 hm0
  go_enter Try.func13, Try.ntmps13
  go_wp2_with fail
  first | (with_reducible refine (list_num v1 l HL.out _ (H1.out.keep (Below.refl _ _))).mono ?_) | refine (list_num v1 l HL.out _ (H1.out.keep (Below.refl _ _))).mono ?_
  rintro e w1 ⟨x1, rfl, g1, hb1⟩
  go_wp2_with fail
  first | (with_reducible refine (list_num v2 m HM.out _ (H2.out.keep hb1)).mono ?_) | refine (list_num v2 m HM.out _ (H2.out.keep hb1)).mono ?_
  rintro e w2 ⟨x2, rfl, g2, hb2⟩
  go_wp2_with fail
  first | (with_reducible refine (Add_big x1 x2 l m HL.out HM.out HS.out _ (g1.keep hb2) g2).mono ?_) | refine (Add_big x1 x2 l m HL.out HM.out HS.out _ (g1.keep hb2) g2).mono ?_
  rintro e _ ⟨rfl, rfl⟩
  go_wp2_with fail
  first | (with_reducible refine (list_num v1 l HL.out _ (H1.out.keep (hb1.trans (hb2.mono hb1.size)))).mono ?_) | refine (list_num v1 l HL.out _ (H1.out.keep (hb1.trans (hb2.mono hb1.size)))).mono ?_
  rintro e w3 ⟨y1, rfl, e1, hb3⟩
  go_wp2_with fail
  first | (with_reducible refine (list_num v2 m HM.out _ (H2.out.keep ((hb1.trans (hb2.mono hb1.size)).trans (hb3.mono (hb1.trans (hb2.mono hb1.size)).size)))).mono ?_) | refine (list_num v2 m HM.out _ (H2.out.keep ((hb1.trans (hb2.mono hb1.size)).trans (hb3.mono (hb1.trans (hb2.mono hb1.size)).size)))).mono ?_
  rintro e w4 ⟨y2, rfl, e2, hb4⟩
  go_wp2_with fail
  first | (with_reducible refine (Less_true y1 y2 l m HL.out HM.out HC.out _ (e1.keep hb4) e2).mono ?_) | refine (Less_true y1 y2 l m HL.out HM.out HC.out _ (e1.keep hb4) e2).mono ?_
  rintro e _ ⟨rfl, rfl⟩
  go_wp2_with fail
  first | (with_reducible refine (rValid_yes v1 l HL.out _ (H1.out.keep (((hb1.trans (hb2.mono hb1.size)).trans (hb3.mono (hb1.trans (hb2.mono hb1.size)).size)).trans (hb4.mono ((hb1.trans (hb2.mono hb1.size)).trans (hb3.mono (hb1.trans (hb2.mono hb1.size)).size)).size)))).mono ?_) | refine (rValid_yes v1 l HL.out _ (H1.out.keep (((hb1.trans (hb2.mono hb1.size)).trans (hb3.mono (hb1.trans (hb2.mono hb1.size)).size)).trans (hb4.mono ((hb1.trans (hb2.mono hb1.size)).trans (hb3.mono (hb1.trans (hb2.mono hb1.size)).size)).size)))).mono ?_
  rintro e _ ⟨rfl, rfl⟩
  go_wp2_with fail
  first | (with_reducible refine (rValid_yes v2 m HM.out _ (H2.out.keep (((hb1.trans (hb2.mono hb1.size)).trans (hb3.mono (hb1.trans (hb2.mono hb1.size)).size)).trans (hb4.mono ((hb1.trans (hb2.mono hb1.size)).trans (hb3.mono (hb1.trans (hb2.mono hb1.size)).size)).size)))).mono ?_) | refine (rValid_yes v2 m HM.out _ (H2.out.keep (((hb1.trans (hb2.mono hb1.size)).trans (hb3.mono (hb1.trans (hb2.mono hb1.size)).size)).trans (hb4.mono ((hb1.trans (hb2.mono hb1.size)).trans (hb3.mono (hb1.trans (hb2.mono hb1.size)).size)).size)))).mono ?_
  rintro e _ ⟨rfl, rfl⟩
  go_wp2_with fail
  first | (with_reducible refine (rAdd_big v1 v2 l m HL.out HM.out HS.out _ (H1.out.keep (((hb1.trans (hb2.mono hb1.size)).trans (hb3.mono (hb1.trans (hb2.mono hb1.size)).size)).trans (hb4.mono ((hb1.trans (hb2.mono hb1.size)).trans (hb3.mono (hb1.trans (hb2.mono hb1.size)).size)).size))) (H2.out.keep (((hb1.trans (hb2.mono hb1.size)).trans (hb3.mono (hb1.trans (hb2.mono hb1.size)).size)).trans (hb4.mono ((hb1.trans (hb2.mono hb1.size)).trans (hb3.mono (hb1.trans (hb2.mono hb1.size)).size)).size)))).mono ?_) | refine (rAdd_big v1 v2 l m HL.out HM.out HS.out _ (H1.out.keep (((hb1.trans (hb2.mono hb1.size)).trans (hb3.mono (hb1.trans (hb2.mono hb1.size)).size)).trans (hb4.mono ((hb1.trans (hb2.mono hb1.size)).trans (hb3.mono (hb1.trans (hb2.mono hb1.size)).size)).size))) (H2.out.keep (((hb1.trans (hb2.mono hb1.size)).trans (hb3.mono (hb1.trans (hb2.mono hb1.size)).size)).trans (hb4.mono ((hb1.trans (hb2.mono hb1.size)).trans (hb3.mono (hb1.trans (hb2.mono hb1.size)).size)).size)))).mono ?_
  rintro e _ ⟨rfl, rfl⟩
  go_wp2_with fail
  first | (with_reducible refine (equal_yes _ _ [] _ (Ints.nil _) (Ints.nil _)).mono ?_) | refine (equal_yes _ _ [] _ (Ints.nil _) (Ints.nil _)).mono ?_
  rintro e w5 ⟨rfl, hb5⟩
  go_wp2_with fail
  first | (with_reducible refine (rValue_any v1 l HML.out (by have := HVL.out; omega) _ (H1.out.keep ((((hb1.trans (hb2.mono hb1.size)).trans (hb3.mono (hb1.trans (hb2.mono hb1.size)).size)).trans (hb4.mono ((hb1.trans (hb2.mono hb1.size)).trans (hb3.mono (hb1.trans (hb2.mono hb1.size)).size)).size)).trans (hb5.mono (((hb1.trans (hb2.mono hb1.size)).trans (hb3.mono (hb1.trans (hb2.mono hb1.size)).size)).trans (hb4.mono ((hb1.trans (hb2.mono hb1.size)).trans (hb3.mono (hb1.trans (hb2.mono hb1.size)).size)).size)).size)))).mono ?_) | refine (rValue_any v1 l HML.out (by have := HVL.out; omega) _ (H1.out.keep ((((hb1.trans (hb2.mono hb1.size)).trans (hb3.mono (hb1.trans (hb2.mono hb1.size)).size)).trans (hb4.mono ((hb1.trans (hb2.mono hb1.size)).trans (hb3.mono (hb1.trans (hb2.mono hb1.size)).size)).size)).trans (hb5.mono (((hb1.trans (hb2.mono hb1.size)).trans (hb3.mono (hb1.trans (hb2.mono hb1.size)).size)).trans (hb4.mono ((hb1.trans (hb2.mono hb1.size)).trans (hb3.mono (hb1.trans (hb2.mono hb1.size)).size)).size)).size)))).mono ?_
  rintro e _ ⟨rfl, rfl⟩
  go_wp2_with fail
  first | (with_reducible refine (rValue_any v2 m HMM.out (by have := HVM.out; omega) _ (H2.out.keep ((((hb1.trans (hb2.mono hb1.size)).trans (hb3.mono (hb1.trans (hb2.mono hb1.size)).size)).trans (hb4.mono ((hb1.trans (hb2.mono hb1.size)).trans (hb3.mono (hb1.trans (hb2.mono hb1.size)).size)).size)).trans (hb5.mono (((hb1.trans (hb2.mono hb1.size)).trans (hb3.mono (hb1.trans (hb2.mono hb1.size)).size)).trans (hb4.mono ((hb1.trans (hb2.mono hb1.size)).trans (hb3.mono (hb1.trans (hb2.mono hb1.size)).size)).size)).size)))).mono ?_) | refine (rValue_any v2 m HMM.out (by have := HVM.out; omega) _ (H2.out.keep ((((hb1.trans (hb2.mono hb1.size)).trans (hb3.mono (hb1.trans (hb2.mono hb1.size)).size)).trans (hb4.mono ((hb1.trans (hb2.mono hb1.size)).trans (hb3.mono (hb1.trans (hb2.mono hb1.size)).size)).size)).trans (hb5.mono (((hb1.trans (hb2.mono hb1.size)).trans (hb3.mono (hb1.trans (hb2.mono hb1.size)).size)).trans (hb4.mono ((hb1.trans (hb2.mono hb1.size)).trans (hb3.mono (hb1.trans (hb2.mono hb1.size)).size)).size)).size)))).mono ?_
  rintro e _ ⟨rfl, rfl⟩
  go_wp2_with fail
  first | (with_reducible refine (awake_any _).mono ?_) | refine (awake_any _).mono ?_
  rintro e w6 ⟨rfl, hb6⟩
  go_wp2
  go_ret
  exact ⟨rfl, (((((hb1.trans (hb2.mono hb1.size)).trans (hb3.mono (hb1.trans (hb2.mono hb1.size)).size)).trans (hb4.mono ((hb1.trans (hb2.mono hb1.size)).trans (hb3.mono (hb1.trans (hb2.mono hb1.size)).size)).size)).trans (hb5.mono (((hb1.trans (hb2.mono hb1.size)).trans (hb3.mono (hb1.trans (hb2.mono hb1.size)).size)).trans (hb4.mono ((hb1.trans (hb2.mono hb1.size)).trans (hb3.mono (hb1.trans (hb2.mono hb1.size)).size)).size)).size)).trans (hb6.mono ((((hb1.trans (hb2.mono hb1.size)).trans (hb3.mono (hb1.trans (hb2.mono hb1.size)).size)).trans (hb4.mono ((hb1.trans (hb2.mono hb1.size)).trans (hb3.mono (hb1.trans (hb2.mono hb1.size)).size)).size)).trans (hb5.mono (((hb1.trans (hb2.mono hb1.size)).trans (hb3.mono (hb1.trans (hb2.mono hb1.size)).size)).trans (hb4.mono ((hb1.trans (hb2.mono hb1.size)).trans (hb3.mono (hb1.trans (hb2.mono hb1.size)).size)).size)).size)).size))⟩

set_option maxHeartbeats 4000000 in
theorem adds_big_false (w : World) (v1 : Value) (l : List Nat) (h1 : Ints w v1 (ix l)) (hl : Falls 60 l) (v2 : Value) (m : List Nat) (h2 : Ints w v2 (ix m)) (hm : Falls 60 m) (hs : 1000000000000 < vsum F l + vsum F m) (hc : ¬ vsum F l < vsum F m)  :
    Calls Try.prog 13 #[v1, v2] w fun e w' => e = .returned (.bool true) ∧ Below w.heap.size w w' := by
  have H1 := Lib.hid h1; clear h1
  have HL := Lib.hid hl; clear hl
  have H2 := Lib.hid h2; clear h2
  have HM := Lib.hid hm; clear hm
  have HS := Lib.hid hs; clear hs
  have HML := Lib.hid (falls_mem HL.out)
  have HMM := Lib.hid (falls_mem HM.out)
  have HVL := Lib.hid (falls_vsum HL.out)
  have HVM := Lib.hid (falls_vsum HM.out)
  have hl0 := vs_zero l
  have hm0 := vs_zero m
  have hd : decide (vs 0 l < vs 0 m) = false := decide_eq_false (by omega)
  have HC := Lib.hid hc; clear hc
  clear hl0 hm0
  go_enter Try.func13, Try.ntmps13
  go_wp2_with fail
  first | (with_reducible refine (list_num v1 l HL.out _ (H1.out.keep (Below.refl _ _))).mono ?_) | refine (list_num v1 l HL.out _ (H1.out.keep (Below.refl _ _))).mono ?_
  rintro e w1 ⟨x1, rfl, g1, hb1⟩
  go_wp2_with fail
  first | (with_reducible refine (list_num v2 m HM.out _ (H2.out.keep hb1)).mono ?_) | refine (list_num v2 m HM.out _ (H2.out.keep hb1)).mono ?_
  rintro e w2 ⟨x2, rfl, g2, hb2⟩
  go_wp2_with fail
  first | (with_reducible refine (Add_big x1 x2 l m HL.out HM.out HS.out _ (g1.keep hb2) g2).mono ?_) | refine (Add_big x1 x2 l m HL.out HM.out HS.out _ (g1.keep hb2) g2).mono ?_
  rintro e _ ⟨rfl, rfl⟩
  go_wp2_with fail
  first | (with_reducible refine (list_num v1 l HL.out _ (H1.out.keep (hb1.trans (hb2.mono hb1.size)))).mono ?_) | refine (list_num v1 l HL.out _ (H1.out.keep (hb1.trans (hb2.mono hb1.size)))).mono ?_
  rintro e w3 ⟨y1, rfl, e1, hb3⟩
  go_wp2_with fail
  first | (with_reducible refine (list_num v2 m HM.out _ (H2.out.keep ((hb1.trans (hb2.mono hb1.size)).trans (hb3.mono (hb1.trans (hb2.mono hb1.size)).size)))).mono ?_) | refine (list_num v2 m HM.out _ (H2.out.keep ((hb1.trans (hb2.mono hb1.size)).trans (hb3.mono (hb1.trans (hb2.mono hb1.size)).size)))).mono ?_
  rintro e w4 ⟨y2, rfl, e2, hb4⟩
  go_wp2_with fail
  first | (with_reducible refine (Less_false y1 y2 l m HL.out HM.out HC.out _ (e1.keep hb4) e2).mono ?_) | refine (Less_false y1 y2 l m HL.out HM.out HC.out _ (e1.keep hb4) e2).mono ?_
  rintro e _ ⟨rfl, rfl⟩
  go_wp2_with fail
  first | (with_reducible refine (rValid_yes v1 l HL.out _ (H1.out.keep (((hb1.trans (hb2.mono hb1.size)).trans (hb3.mono (hb1.trans (hb2.mono hb1.size)).size)).trans (hb4.mono ((hb1.trans (hb2.mono hb1.size)).trans (hb3.mono (hb1.trans (hb2.mono hb1.size)).size)).size)))).mono ?_) | refine (rValid_yes v1 l HL.out _ (H1.out.keep (((hb1.trans (hb2.mono hb1.size)).trans (hb3.mono (hb1.trans (hb2.mono hb1.size)).size)).trans (hb4.mono ((hb1.trans (hb2.mono hb1.size)).trans (hb3.mono (hb1.trans (hb2.mono hb1.size)).size)).size)))).mono ?_
  rintro e _ ⟨rfl, rfl⟩
  go_wp2_with fail
  first | (with_reducible refine (rValid_yes v2 m HM.out _ (H2.out.keep (((hb1.trans (hb2.mono hb1.size)).trans (hb3.mono (hb1.trans (hb2.mono hb1.size)).size)).trans (hb4.mono ((hb1.trans (hb2.mono hb1.size)).trans (hb3.mono (hb1.trans (hb2.mono hb1.size)).size)).size)))).mono ?_) | refine (rValid_yes v2 m HM.out _ (H2.out.keep (((hb1.trans (hb2.mono hb1.size)).trans (hb3.mono (hb1.trans (hb2.mono hb1.size)).size)).trans (hb4.mono ((hb1.trans (hb2.mono hb1.size)).trans (hb3.mono (hb1.trans (hb2.mono hb1.size)).size)).size)))).mono ?_
  rintro e _ ⟨rfl, rfl⟩
  go_wp2_with fail
  first | (with_reducible refine (rAdd_big v1 v2 l m HL.out HM.out HS.out _ (H1.out.keep (((hb1.trans (hb2.mono hb1.size)).trans (hb3.mono (hb1.trans (hb2.mono hb1.size)).size)).trans (hb4.mono ((hb1.trans (hb2.mono hb1.size)).trans (hb3.mono (hb1.trans (hb2.mono hb1.size)).size)).size))) (H2.out.keep (((hb1.trans (hb2.mono hb1.size)).trans (hb3.mono (hb1.trans (hb2.mono hb1.size)).size)).trans (hb4.mono ((hb1.trans (hb2.mono hb1.size)).trans (hb3.mono (hb1.trans (hb2.mono hb1.size)).size)).size)))).mono ?_) | refine (rAdd_big v1 v2 l m HL.out HM.out HS.out _ (H1.out.keep (((hb1.trans (hb2.mono hb1.size)).trans (hb3.mono (hb1.trans (hb2.mono hb1.size)).size)).trans (hb4.mono ((hb1.trans (hb2.mono hb1.size)).trans (hb3.mono (hb1.trans (hb2.mono hb1.size)).size)).size))) (H2.out.keep (((hb1.trans (hb2.mono hb1.size)).trans (hb3.mono (hb1.trans (hb2.mono hb1.size)).size)).trans (hb4.mono ((hb1.trans (hb2.mono hb1.size)).trans (hb3.mono (hb1.trans (hb2.mono hb1.size)).size)).size)))).mono ?_
  rintro e _ ⟨rfl, rfl⟩
  go_wp2_with fail
  first | (with_reducible refine (equal_yes _ _ [] _ (Ints.nil _) (Ints.nil _)).mono ?_) | refine (equal_yes _ _ [] _ (Ints.nil _) (Ints.nil _)).mono ?_
  rintro e w5 ⟨rfl, hb5⟩
  go_wp2_with fail
  first | (with_reducible refine (rValue_any v1 l HML.out (by have := HVL.out; omega) _ (H1.out.keep ((((hb1.trans (hb2.mono hb1.size)).trans (hb3.mono (hb1.trans (hb2.mono hb1.size)).size)).trans (hb4.mono ((hb1.trans (hb2.mono hb1.size)).trans (hb3.mono (hb1.trans (hb2.mono hb1.size)).size)).size)).trans (hb5.mono (((hb1.trans (hb2.mono hb1.size)).trans (hb3.mono (hb1.trans (hb2.mono hb1.size)).size)).trans (hb4.mono ((hb1.trans (hb2.mono hb1.size)).trans (hb3.mono (hb1.trans (hb2.mono hb1.size)).size)).size)).size)))).mono ?_) | refine (rValue_any v1 l HML.out (by have := HVL.out; omega) _ (H1.out.keep ((((hb1.trans (hb2.mono hb1.size)).trans (hb3.mono (hb1.trans (hb2.mono hb1.size)).size)).trans (hb4.mono ((hb1.trans (hb2.mono hb1.size)).trans (hb3.mono (hb1.trans (hb2.mono hb1.size)).size)).size)).trans (hb5.mono (((hb1.trans (hb2.mono hb1.size)).trans (hb3.mono (hb1.trans (hb2.mono hb1.size)).size)).trans (hb4.mono ((hb1.trans (hb2.mono hb1.size)).trans (hb3.mono (hb1.trans (hb2.mono hb1.size)).size)).size)).size)))).mono ?_
  rintro e _ ⟨rfl, rfl⟩
  go_wp2_with fail
  first | (with_reducible refine (rValue_any v2 m HMM.out (by have := HVM.out; omega) _ (H2.out.keep ((((hb1.trans (hb2.mono hb1.size)).trans (hb3.mono (hb1.trans (hb2.mono hb1.size)).size)).trans (hb4.mono ((hb1.trans (hb2.mono hb1.size)).trans (hb3.mono (hb1.trans (hb2.mono hb1.size)).size)).size)).trans (hb5.mono (((hb1.trans (hb2.mono hb1.size)).trans (hb3.mono (hb1.trans (hb2.mono hb1.size)).size)).trans (hb4.mono ((hb1.trans (hb2.mono hb1.size)).trans (hb3.mono (hb1.trans (hb2.mono hb1.size)).size)).size)).size)))).mono ?_) | refine (rValue_any v2 m HMM.out (by have := HVM.out; omega) _ (H2.out.keep ((((hb1.trans (hb2.mono hb1.size)).trans (hb3.mono (hb1.trans (hb2.mono hb1.size)).size)).trans (hb4.mono ((hb1.trans (hb2.mono hb1.size)).trans (hb3.mono (hb1.trans (hb2.mono hb1.size)).size)).size)).trans (hb5.mono (((hb1.trans (hb2.mono hb1.size)).trans (hb3.mono (hb1.trans (hb2.mono hb1.size)).size)).trans (hb4.mono ((hb1.trans (hb2.mono hb1.size)).trans (hb3.mono (hb1.trans (hb2.mono hb1.size)).size)).size)).size)))).mono ?_
  rintro e _ ⟨rfl, rfl⟩
  go_wp2_with fail
  first | (with_reducible refine (awake_any _).mono ?_) | refine (awake_any _).mono ?_
  rintro e w6 ⟨rfl, hb6⟩
  go_wp2
  go_ret
  exact ⟨rfl, (((((hb1.trans (hb2.mono hb1.size)).trans (hb3.mono (hb1.trans (hb2.mono hb1.size)).size)).trans (hb4.mono ((hb1.trans (hb2.mono hb1.size)).trans (hb3.mono (hb1.trans (hb2.mono hb1.size)).size)).size)).trans (hb5.mono (((hb1.trans (hb2.mono hb1.size)).trans (hb3.mono (hb1.trans (hb2.mono hb1.size)).size)).trans (hb4.mono ((hb1.trans (hb2.mono hb1.size)).trans (hb3.mono (hb1.trans (hb2.mono hb1.size)).size)).size)).size)).trans (hb6.mono ((((hb1.trans (hb2.mono hb1.size)).trans (hb3.mono (hb1.trans (hb2.mono hb1.size)).size)).trans (hb4.mono ((hb1.trans (hb2.mono hb1.size)).trans (hb3.mono (hb1.trans (hb2.mono hb1.size)).size)).size)).trans (hb5.mono (((hb1.trans (hb2.mono hb1.size)).trans (hb3.mono (hb1.trans (hb2.mono hb1.size)).size)).trans (hb4.mono ((hb1.trans (hb2.mono hb1.size)).trans (hb3.mono (hb1.trans (hb2.mono hb1.size)).size)).size)).size)).size))⟩

theorem numeralAdds_walk (w : World) (v1 : Value) (xs : List Int) (h1 : Ints w v1 xs) (hb1 : ∀ n ∈ xs, -9223372036854775808 ≤ n ∧ n ≤ 9223372036854775807) (v2 : Value) (ys : List Int) (h2 : Ints w v2 ys) (hb2 : ∀ n ∈ ys, -9223372036854775808 ≤ n ∧ n ≤ 9223372036854775807) :
    Calls Try.prog 13 #[v1, v2] w fun e w' => e = .returned (.bool true) ∧ Below w.heap.size w w' := by
  by_cases hx : IsNum xs
  · obtain ⟨l, rfl, hl⟩ := hx
    by_cases hy : IsNum ys
    · obtain ⟨m, rfl, hm⟩ := hy
      by_cases hs : vsum F l + vsum F m ≤ 1000000000000
      · by_cases hc : vsum F l < vsum F m
        · exact adds_yes_true w v1 l h1 hl v2 m h2 hm hs hc
        · exact adds_yes_false w v1 l h1 hl v2 m h2 hm hs hc
      · by_cases hc : vsum F l < vsum F m
        · exact adds_big_true w v1 l h1 hl v2 m h2 hm (by omega) hc
        · exact adds_big_false w v1 l h1 hl v2 m h2 hm (by omega) hc
    · exact adds_n2 w v1 l h1 hl v2 ys h2 hb2 hy
  · exact adds_n1 w v1 xs h1 hb1 hx v2 ys h2 hb2
end Go.Proofs.Ytiknocjdogbajaa
