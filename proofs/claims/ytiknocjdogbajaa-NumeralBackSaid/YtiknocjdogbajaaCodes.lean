/- The walk of NumeralCodes. -/
import Derived.Test.YtiknocjdogbajaaC
namespace Go.Proofs.Ytiknocjdogbajaa
open Go.RowKit

/-- what is told of a numeral: its value, or the error -/
def told1 (l : List Nat) : Int := if vsum F l ≤ 1000000000000 then vsum F l else 0
def told2 (l : List Nat) : Int := if vsum F l ≤ 1000000000000 then 0 else 6
theorem Value_told (v : Value) (l : List Nat) (h : Falls 60 l) (w : World) (hv : Ints w v (ix l)) :
    Calls Try.prog 20 #[v] w fun e w' => e = .returned (.tuple #[.int .i64 (told1 l), .int .i64 (told2 l)]) ∧ w = w' := by
  by_cases hs : vsum F l ≤ 1000000000000
  · have e1 : told1 l = vsum F l := if_pos hs
    have e2 : told2 l = 0 := if_pos hs
    rw [e1, e2]; exact Value_yes v l h hs w hv
  · have e1 : told1 l = 0 := if_neg hs
    have e2 : told2 l = 6 := if_neg hs
    rw [e1, e2]; exact Value_big v l h (by omega) w hv
theorem rTold_told (v : Value) (l : List Nat) (h : Falls 60 l) (w : World) (hv : Ints w v (ix l)) :
    Calls Try.prog 26 #[v] w fun e w' => e = .returned (.tuple #[.int .i64 (told1 l), .int .i64 (told2 l)]) ∧ w = w' := by
  by_cases hs : vsum F l ≤ 1000000000000
  · have e1 : told1 l = vsum F l := if_pos hs
    have e2 : told2 l = 0 := if_pos hs
    rw [e1, e2]; exact rTold_yes v l h hs w hv
  · have e1 : told1 l = 0 := if_neg hs
    have e2 : told2 l = 6 := if_neg hs
    rw [e1, e2]; exact rTold_big v l h (by omega) w hv
theorem take_isNum {xs : List Int} (h : ¬ IsNum xs) : ¬ IsNum (xs.take 40) := by
  rintro ⟨l, e, hf⟩
  have h1 := falls_length hf
  have h2 : (xs.take 40).length = l.length := by rw [e, ix_length]
  rw [List.length_take] at h2
  rw [List.take_of_length_le (by omega)] at e
  exact h ⟨l, e, hf⟩
theorem take_num {l : List Nat} (hf : Falls 60 l) : (ix l).take 40 = ix l := by
  have h1 := falls_length hf
  exact List.take_of_length_le (by rw [ix_length]; omega)
theorem bounds_take {xs : List Int} {k : Nat} (h : ∀ n ∈ xs, -9223372036854775808 ≤ n ∧ n ≤ 9223372036854775807) : ∀ n ∈ xs.take k, -9223372036854775808 ≤ n ∧ n ≤ 9223372036854775807 :=
  fun n hn => h n (List.mem_of_mem_take hn)
theorem Own.small {w : World} {base : Nat} {v : Value} {xs : List Int} (h : Own w base v (xs.take 40)) : Ints w v (xs.take 40) := h.ints (by rw [List.length_take]; omega)
theorem Own.num {w : World} {base : Nat} {v : Value} {l : List Nat} (hf : Falls 60 l) (h : Own w base v ((ix l).take 40)) : Ints w v (ix l) := by
  have := h.small; rw [take_num hf] at this; exact this
theorem list_num (v : Value) (l : List Nat) (hl : Falls 60 l) (w : World) (h : Ints w v (ix l)) :
    Calls Try.prog 21 #[v] w fun e w' => ∃ v', e = .returned v' ∧ Ints w' v' (ix l) ∧ Below w.heap.size w w' :=
  (list_any v (ix l) w h).mono fun _ _ ⟨v', he, ho, hb⟩ => ⟨v', he, ho.num hl, hb⟩
theorem list_small (v : Value) (xs : List Int) (w : World) (h : Ints w v xs) :
    Calls Try.prog 21 #[v] w fun e w' => ∃ v', e = .returned v' ∧ Ints w' v' (xs.take 40) ∧ Below w.heap.size w w' :=
  (list_any v xs w h).mono fun _ _ ⟨v', he, ho, hb⟩ => ⟨v', he, ho.small, hb⟩

set_option maxHeartbeats 2000000 in
theorem codes_nx (w : World) (n : Int) (hn : n < 0 ∨ 1000000000000 < n) (v : Value) (xs : List Int) (hv : Ints w v xs) (hbd : ∀ n ∈ xs, -9223372036854775808 ≤ n ∧ n ≤ 9223372036854775807) (hx : ¬ IsNum xs) :
    Calls Try.prog 5 #[.int .i64 n, v] w fun e w' => e = .returned (.bool true) ∧ Below w.heap.size w w' := by
  have HN := Lib.hid hn; clear hn
  have HV := Lib.hid hv; clear hv
  have HB := Lib.hid hbd; clear hbd
  have HX := Lib.hid hx; clear hx
  go_enter Try.func5, Try.ntmps5
  go_wp2_with fail
  first | (with_reducible refine (Encode_no n HN.out _).mono ?_) | refine (Encode_no n HN.out _).mono ?_
  rintro e _ ⟨rfl, rfl⟩
  go_wp2_with fail
  first | (with_reducible refine (list_small v xs _ (HV.out.keep (Below.refl _ _))).mono ?_) | refine (list_small v xs _ (HV.out.keep (Below.refl _ _))).mono ?_
  rintro e w1 ⟨v1, rfl, h1, hb1⟩
  go_wp2_with fail
  first | (with_reducible refine (Value_no v1 _ (take_isNum HX.out) (bounds_take HB.out) _ h1).mono ?_) | refine (Value_no v1 _ (take_isNum HX.out) (bounds_take HB.out) _ h1).mono ?_
  rintro e _ ⟨rfl, rfl⟩
  go_wp2_with fail
  first | (with_reducible refine (rNumber_no n HN.out _).mono ?_) | refine (rNumber_no n HN.out _).mono ?_
  rintro e _ ⟨rfl, rfl⟩
  go_wp2_with fail
  first | (with_reducible refine (rNumber_no n HN.out _).mono ?_) | refine (rNumber_no n HN.out _).mono ?_
  rintro e _ ⟨rfl, rfl⟩
  go_wp2_with fail
  first | (with_reducible refine (awake_any _).mono ?_) | refine (awake_any _).mono ?_
  rintro e w2 ⟨rfl, hb2⟩
  go_wp2_with fail
  first | (with_reducible refine (rValid_no v xs HX.out HB.out _ (HV.out.keep (hb1.trans (hb2.mono hb1.size)))).mono ?_) | refine (rValid_no v xs HX.out HB.out _ (HV.out.keep (hb1.trans (hb2.mono hb1.size)))).mono ?_
  rintro e _ ⟨rfl, rfl⟩
  go_wp2
  go_ret
  exact ⟨rfl, (hb1.trans (hb2.mono hb1.size))⟩

set_option maxHeartbeats 2000000 in
theorem codes_nl (w : World) (n : Int) (hn : n < 0 ∨ 1000000000000 < n) (v : Value) (l : List Nat) (hv : Ints w v (ix l)) (hl : Falls 60 l) :
    Calls Try.prog 5 #[.int .i64 n, v] w fun e w' => e = .returned (.bool true) ∧ Below w.heap.size w w' := by
  have HN := Lib.hid hn; clear hn
  have HV := Lib.hid hv; clear hv
  have HL := Lib.hid hl; clear hl
  go_enter Try.func5, Try.ntmps5
  go_wp2_with fail
  first | (with_reducible refine (Encode_no n HN.out _).mono ?_) | refine (Encode_no n HN.out _).mono ?_
  rintro e _ ⟨rfl, rfl⟩
  go_wp2_with fail
  first | (with_reducible refine (list_num v l HL.out _ (HV.out.keep (Below.refl _ _))).mono ?_) | refine (list_num v l HL.out _ (HV.out.keep (Below.refl _ _))).mono ?_
  rintro e w1 ⟨v1, rfl, h1, hb1⟩
  go_wp2_with fail
  first | (with_reducible refine (Value_told v1 l HL.out _ h1).mono ?_) | refine (Value_told v1 l HL.out _ h1).mono ?_
  rintro e _ ⟨rfl, rfl⟩
  go_wp2_with fail
  first | (with_reducible refine (rNumber_no n HN.out _).mono ?_) | refine (rNumber_no n HN.out _).mono ?_
  rintro e _ ⟨rfl, rfl⟩
  go_wp2_with fail
  first | (with_reducible refine (rNumber_no n HN.out _).mono ?_) | refine (rNumber_no n HN.out _).mono ?_
  rintro e _ ⟨rfl, rfl⟩
  go_wp2_with fail
  first | (with_reducible refine (awake_any _).mono ?_) | refine (awake_any _).mono ?_
  rintro e w2 ⟨rfl, hb2⟩
  go_wp2_with fail
  first | (with_reducible refine (rValid_yes v l HL.out _ (HV.out.keep (hb1.trans (hb2.mono hb1.size)))).mono ?_) | refine (rValid_yes v l HL.out _ (HV.out.keep (hb1.trans (hb2.mono hb1.size)))).mono ?_
  rintro e _ ⟨rfl, rfl⟩
  go_wp2_with fail
  first | (with_reducible refine (rTold_told v l HL.out _ (HV.out.keep (hb1.trans (hb2.mono hb1.size)))).mono ?_) | refine (rTold_told v l HL.out _ (HV.out.keep (hb1.trans (hb2.mono hb1.size)))).mono ?_
  rintro e _ ⟨rfl, rfl⟩
  go_wp2
  go_ret
  exact ⟨rfl, (hb1.trans (hb2.mono hb1.size))⟩

set_option maxHeartbeats 2000000 in
theorem codes_yx (w : World) (n : Nat) (hn : n ≤ 1000000000000) (v : Value) (xs : List Int) (hv : Ints w v xs) (hbd : ∀ n ∈ xs, -9223372036854775808 ≤ n ∧ n ≤ 9223372036854775807) (hx : ¬ IsNum xs) :
    Calls Try.prog 5 #[.int .i64 n, v] w fun e w' => e = .returned (.bool true) ∧ Below w.heap.size w w' := by
  have HV := Lib.hid hv; clear hv
  have HB := Lib.hid hbd; clear hbd
  have HX := Lib.hid hx; clear hx
  go_enter Try.func5, Try.ntmps5
  go_wp2_with fail
  first | (with_reducible refine (Encode_yes n hn _).mono ?_) | refine (Encode_yes n hn _).mono ?_
  rintro e w1 ⟨v0, rfl, h0, hb1⟩
  go_wp2_with fail
  first | (with_reducible refine (list_small v xs _ (HV.out.keep hb1)).mono ?_) | refine (list_small v xs _ (HV.out.keep hb1)).mono ?_
  rintro e w2 ⟨v1, rfl, h1, hb2⟩
  go_wp2_with fail
  first | (with_reducible refine (Value_no v1 _ (take_isNum HX.out) (bounds_take HB.out) _ h1).mono ?_) | refine (Value_no v1 _ (take_isNum HX.out) (bounds_take HB.out) _ h1).mono ?_
  rintro e _ ⟨rfl, rfl⟩
  go_wp2_with fail
  first | (with_reducible refine (rNumber_yes n (by omega) (by omega) _).mono ?_) | refine (rNumber_yes n (by omega) (by omega) _).mono ?_
  rintro e _ ⟨rfl, rfl⟩
  go_wp2_with fail
  first | (with_reducible refine (rEncode_nat n hn _).mono ?_) | refine (rEncode_nat n hn _).mono ?_
  rintro e w3 ⟨v2, rfl, h2, hb3⟩
  go_wp2_with fail
  first | (with_reducible refine (equal_yes v0 v2 (ix (zeck n)) _ (h0.keep (hb2.trans (hb3.mono hb2.size))) h2).mono ?_) | refine (equal_yes v0 v2 (ix (zeck n)) _ (h0.keep (hb2.trans (hb3.mono hb2.size))) h2).mono ?_
  rintro e w4 ⟨rfl, hb4⟩
  go_wp2_with fail
  first | (with_reducible refine (rNumber_yes n (by omega) (by omega) _).mono ?_) | refine (rNumber_yes n (by omega) (by omega) _).mono ?_
  rintro e _ ⟨rfl, rfl⟩
  go_wp2_with fail
  first | (with_reducible refine (awake_any _).mono ?_) | refine (awake_any _).mono ?_
  rintro e w5 ⟨rfl, hb5⟩
  go_wp2_with fail
  first | (with_reducible refine (rValid_no v xs HX.out HB.out _ (HV.out.keep ((((hb1.trans (hb2.mono hb1.size)).trans (hb3.mono (hb1.trans (hb2.mono hb1.size)).size)).trans (hb4.mono ((hb1.trans (hb2.mono hb1.size)).trans (hb3.mono (hb1.trans (hb2.mono hb1.size)).size)).size)).trans (hb5.mono (((hb1.trans (hb2.mono hb1.size)).trans (hb3.mono (hb1.trans (hb2.mono hb1.size)).size)).trans (hb4.mono ((hb1.trans (hb2.mono hb1.size)).trans (hb3.mono (hb1.trans (hb2.mono hb1.size)).size)).size)).size)))).mono ?_) | refine (rValid_no v xs HX.out HB.out _ (HV.out.keep ((((hb1.trans (hb2.mono hb1.size)).trans (hb3.mono (hb1.trans (hb2.mono hb1.size)).size)).trans (hb4.mono ((hb1.trans (hb2.mono hb1.size)).trans (hb3.mono (hb1.trans (hb2.mono hb1.size)).size)).size)).trans (hb5.mono (((hb1.trans (hb2.mono hb1.size)).trans (hb3.mono (hb1.trans (hb2.mono hb1.size)).size)).trans (hb4.mono ((hb1.trans (hb2.mono hb1.size)).trans (hb3.mono (hb1.trans (hb2.mono hb1.size)).size)).size)).size)))).mono ?_
  rintro e _ ⟨rfl, rfl⟩
  go_wp2
  go_ret
  exact ⟨rfl, ((((hb1.trans (hb2.mono hb1.size)).trans (hb3.mono (hb1.trans (hb2.mono hb1.size)).size)).trans (hb4.mono ((hb1.trans (hb2.mono hb1.size)).trans (hb3.mono (hb1.trans (hb2.mono hb1.size)).size)).size)).trans (hb5.mono (((hb1.trans (hb2.mono hb1.size)).trans (hb3.mono (hb1.trans (hb2.mono hb1.size)).size)).trans (hb4.mono ((hb1.trans (hb2.mono hb1.size)).trans (hb3.mono (hb1.trans (hb2.mono hb1.size)).size)).size)).size))⟩

set_option maxHeartbeats 2000000 in
theorem codes_yl (w : World) (n : Nat) (hn : n ≤ 1000000000000) (v : Value) (l : List Nat) (hv : Ints w v (ix l)) (hl : Falls 60 l) :
    Calls Try.prog 5 #[.int .i64 n, v] w fun e w' => e = .returned (.bool true) ∧ Below w.heap.size w w' := by
  have HV := Lib.hid hv; clear hv
  have HL := Lib.hid hl; clear hl
  go_enter Try.func5, Try.ntmps5
  go_wp2_with fail
  first | (with_reducible refine (Encode_yes n hn _).mono ?_) | refine (Encode_yes n hn _).mono ?_
  rintro e w1 ⟨v0, rfl, h0, hb1⟩
  go_wp2_with fail
  first | (with_reducible refine (list_num v l HL.out _ (HV.out.keep hb1)).mono ?_) | refine (list_num v l HL.out _ (HV.out.keep hb1)).mono ?_
  rintro e w2 ⟨v1, rfl, h1, hb2⟩
  go_wp2_with fail
  first | (with_reducible refine (Value_told v1 l HL.out _ h1).mono ?_) | refine (Value_told v1 l HL.out _ h1).mono ?_
  rintro e _ ⟨rfl, rfl⟩
  go_wp2_with fail
  first | (with_reducible refine (rNumber_yes n (by omega) (by omega) _).mono ?_) | refine (rNumber_yes n (by omega) (by omega) _).mono ?_
  rintro e _ ⟨rfl, rfl⟩
  go_wp2_with fail
  first | (with_reducible refine (rEncode_nat n hn _).mono ?_) | refine (rEncode_nat n hn _).mono ?_
  rintro e w3 ⟨v2, rfl, h2, hb3⟩
  go_wp2_with fail
  first | (with_reducible refine (equal_yes v0 v2 (ix (zeck n)) _ (h0.keep (hb2.trans (hb3.mono hb2.size))) h2).mono ?_) | refine (equal_yes v0 v2 (ix (zeck n)) _ (h0.keep (hb2.trans (hb3.mono hb2.size))) h2).mono ?_
  rintro e w4 ⟨rfl, hb4⟩
  go_wp2_with fail
  first | (with_reducible refine (rNumber_yes n (by omega) (by omega) _).mono ?_) | refine (rNumber_yes n (by omega) (by omega) _).mono ?_
  rintro e _ ⟨rfl, rfl⟩
  go_wp2_with fail
  first | (with_reducible refine (awake_any _).mono ?_) | refine (awake_any _).mono ?_
  rintro e w5 ⟨rfl, hb5⟩
  go_wp2_with fail
  first | (with_reducible refine (rValid_yes v l HL.out _ (HV.out.keep ((((hb1.trans (hb2.mono hb1.size)).trans (hb3.mono (hb1.trans (hb2.mono hb1.size)).size)).trans (hb4.mono ((hb1.trans (hb2.mono hb1.size)).trans (hb3.mono (hb1.trans (hb2.mono hb1.size)).size)).size)).trans (hb5.mono (((hb1.trans (hb2.mono hb1.size)).trans (hb3.mono (hb1.trans (hb2.mono hb1.size)).size)).trans (hb4.mono ((hb1.trans (hb2.mono hb1.size)).trans (hb3.mono (hb1.trans (hb2.mono hb1.size)).size)).size)).size)))).mono ?_) | refine (rValid_yes v l HL.out _ (HV.out.keep ((((hb1.trans (hb2.mono hb1.size)).trans (hb3.mono (hb1.trans (hb2.mono hb1.size)).size)).trans (hb4.mono ((hb1.trans (hb2.mono hb1.size)).trans (hb3.mono (hb1.trans (hb2.mono hb1.size)).size)).size)).trans (hb5.mono (((hb1.trans (hb2.mono hb1.size)).trans (hb3.mono (hb1.trans (hb2.mono hb1.size)).size)).trans (hb4.mono ((hb1.trans (hb2.mono hb1.size)).trans (hb3.mono (hb1.trans (hb2.mono hb1.size)).size)).size)).size)))).mono ?_
  rintro e _ ⟨rfl, rfl⟩
  go_wp2_with fail
  first | (with_reducible refine (rTold_told v l HL.out _ (HV.out.keep ((((hb1.trans (hb2.mono hb1.size)).trans (hb3.mono (hb1.trans (hb2.mono hb1.size)).size)).trans (hb4.mono ((hb1.trans (hb2.mono hb1.size)).trans (hb3.mono (hb1.trans (hb2.mono hb1.size)).size)).size)).trans (hb5.mono (((hb1.trans (hb2.mono hb1.size)).trans (hb3.mono (hb1.trans (hb2.mono hb1.size)).size)).trans (hb4.mono ((hb1.trans (hb2.mono hb1.size)).trans (hb3.mono (hb1.trans (hb2.mono hb1.size)).size)).size)).size)))).mono ?_) | refine (rTold_told v l HL.out _ (HV.out.keep ((((hb1.trans (hb2.mono hb1.size)).trans (hb3.mono (hb1.trans (hb2.mono hb1.size)).size)).trans (hb4.mono ((hb1.trans (hb2.mono hb1.size)).trans (hb3.mono (hb1.trans (hb2.mono hb1.size)).size)).size)).trans (hb5.mono (((hb1.trans (hb2.mono hb1.size)).trans (hb3.mono (hb1.trans (hb2.mono hb1.size)).size)).trans (hb4.mono ((hb1.trans (hb2.mono hb1.size)).trans (hb3.mono (hb1.trans (hb2.mono hb1.size)).size)).size)).size)))).mono ?_
  rintro e _ ⟨rfl, rfl⟩
  go_wp2
  go_ret
  exact ⟨rfl, ((((hb1.trans (hb2.mono hb1.size)).trans (hb3.mono (hb1.trans (hb2.mono hb1.size)).size)).trans (hb4.mono ((hb1.trans (hb2.mono hb1.size)).trans (hb3.mono (hb1.trans (hb2.mono hb1.size)).size)).size)).trans (hb5.mono (((hb1.trans (hb2.mono hb1.size)).trans (hb3.mono (hb1.trans (hb2.mono hb1.size)).size)).trans (hb4.mono ((hb1.trans (hb2.mono hb1.size)).trans (hb3.mono (hb1.trans (hb2.mono hb1.size)).size)).size)).size))⟩

theorem numeralCodes_walk (w : World) (a0 : Int) (_hw : -9223372036854775808 ≤ a0 ∧ a0 ≤ 9223372036854775807) (v : Value) (xs : List Int) (hv : Ints w v xs) (hbd : ∀ n ∈ xs, -9223372036854775808 ≤ n ∧ n ≤ 9223372036854775807) :
    Calls Try.prog 5 #[.int .i64 a0, v] w fun e w' => e = .returned (.bool true) ∧ Below w.heap.size w w' := by
  by_cases hx : IsNum xs
  · obtain ⟨l, rfl, hl⟩ := hx
    by_cases h0 : 0 ≤ a0 ∧ a0 ≤ 1000000000000
    · obtain ⟨n, rfl⟩ := Int.eq_ofNat_of_zero_le h0.1
      exact codes_yl w n (by omega) v l hv hl
    · exact codes_nl w a0 (by omega) v l hv hl
  · by_cases h0 : 0 ≤ a0 ∧ a0 ≤ 1000000000000
    · obtain ⟨n, rfl⟩ := Int.eq_ofNat_of_zero_le h0.1
      exact codes_yx w n (by omega) v xs hv hbd hx
    · exact codes_nx w a0 (by omega) v xs hv hbd hx
end Go.Proofs.Ytiknocjdogbajaa
