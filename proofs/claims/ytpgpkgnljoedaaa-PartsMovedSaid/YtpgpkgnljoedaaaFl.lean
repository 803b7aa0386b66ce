/- The walks of PartsFranklin and PartsMoved. -/
import Derived.Test.YtpgpkgnljoedaaaFw
import Derived.Test.YtpgpkgnljoedaaaLi
namespace Go.Proofs.Ytpgpkgnljoedaaa
open Go.RowKit
set_option maxHeartbeats 4000000 in
theorem franklin_bad (v : Value) (l : List Int) (h : ¬ (Part l ∧ 0 < l.length ∧ Dif l)) (w : World) (hv : Ints w v l) :
    Calls Try.prog 24 #[v] w fun e w' => e = .returned (.tuple #[.slice none 0 0, .int .i64 2]) ∧ Below w.heap.size w w' := by
  have HV := Lib.hid hv
  obtain ⟨_, A, c, rfl, _, _⟩ := hv
  by_cases hp : Part l
  · have HP := Lib.hid hp
    by_cases h0 : 0 < l.length
    · have HD := Lib.hid (show ¬ Dif l from fun hd => h ⟨hp, h0, hd⟩)
      have hlz : ((l.length : Int) == 0) = false := by rw [beq_eq_false_iff_ne]; omega
      have hlz2 : (l.length == 0) = false := by rw [beq_eq_false_iff_ne]; omega
      clear h hp
      go_enter Try.func24, Try.ntmps24
      go_wp2_with fail
      refine (valid_yes _ l HP.out _ HV.out).mono ?_
      rintro e _ ⟨rfl, rfl⟩
      go_wp2_with fail
      refine (different_no _ l HD.out _ HV.out).mono ?_
      rintro e w1 ⟨rfl, hb1⟩
      go_wp2_with fail
      exact bodyPost_ret (v := .tuple #[.slice none 0 0, .int .i64 2]) (by simp [results, Try.results24, go_sem]) rfl ⟨rfl, hb1⟩
    · obtain rfl : l = [] := List.eq_nil_of_length_eq_zero (by omega)
      clear h hp h0
      go_enter Try.func24, Try.ntmps24
      go_wp2_with fail
      refine (valid_yes _ [] HP.out _ HV.out).mono ?_
      rintro e _ ⟨rfl, rfl⟩
      go_wp2_with fail
      exact bodyPost_ret (v := .tuple #[.slice none 0 0, .int .i64 2]) (by simp [results, Try.results24, go_sem]) rfl ⟨rfl, Below.refl _ _⟩
  · have HP := Lib.hid hp
    clear h hp
    go_enter Try.func24, Try.ntmps24
    go_wp2_with fail
    refine (valid_no _ l HP.out _ HV.out).mono ?_
    rintro e _ ⟨rfl, rfl⟩
    go_wp2_with fail
    exact bodyPost_ret (v := .tuple #[.slice none 0 0, .int .i64 2]) (by simp [results, Try.results24, go_sem]) rfl ⟨rfl, Below.refl _ _⟩
theorem bad_take {l : List Int} (h : ¬ (Part l ∧ 0 < l.length ∧ Dif l)) : ¬ (Part (l.take 34) ∧ 0 < (l.take 34).length ∧ Dif (l.take 34)) := by
  intro h2
  by_cases hp : Part l
  · rw [hp.take34] at h2; exact h h2
  · exact part_take hp h2.1
set_option maxRecDepth 100000 in
set_option maxHeartbeats 8000000 in
theorem partsFranklin_bad (v : Value) (l : List Int) (h : ¬ (Part l ∧ 0 < l.length ∧ Dif l)) (w : World) (hv : Ints w v l) :
    Calls Try.prog 5 #[v] w fun e w' => e = .returned (.bool true) ∧ Below w.heap.size w w' := by
  have HV := Lib.hid hv
  have HB := Lib.hid (bad_take h)
  obtain ⟨_, A, c, rfl, _, _⟩ := hv
  by_cases hp : Part l
  · have HP := Lib.hid hp
    by_cases h0 : 0 < l.length
    · have HD := Lib.hid (show ¬ Dif l from fun hd => h ⟨hp, h0, hd⟩)
      have hlz : ((l.length : Int) == 0) = false := by rw [beq_eq_false_iff_ne]; omega
      have hlz2 : (l.length == 0) = false := by rw [beq_eq_false_iff_ne]; omega
      clear h hp
      go_enter Try.func5, Try.ntmps5
      go_wp2_with fail
      refine (list_any _ l _ HV.out).mono ?_
      rintro e w1 ⟨v1, rfl, o1, b1⟩
      have I1 := Lib.hid (o1.ints (by rw [List.length_take]; omega))
      clear o1
      go_wp2_with fail
      refine (franklin_bad _ _ HB.out _ I1.out).mono ?_
      rintro e w2 ⟨rfl, b2⟩
      have hb := b1.trans (b2.mono b1.size)
      clear b1 b2
      go_wp2_with fail
      refine (rValid_yes _ l HP.out _ (HV.out.keep hb)).mono ?_
      rintro e _ ⟨rfl, rfl⟩
      go_wp2_with fail
      refine (rDifferent_any _ l false (by simp; exact HD.out) _ (HV.out.keep hb)).mono ?_
      rintro e _ ⟨rfl, rfl⟩
      go_wp2_with fail
      (with_reducible refine (awake_any _).mono ?_)
      rintro e wz ⟨rfl, bz⟩
      have hb9 := hb.trans (bz.mono hb.size)
      go_wp2_with fail
      go_ret
      exact ⟨rfl, hb9⟩
    · obtain rfl : l = [] := List.eq_nil_of_length_eq_zero (by omega)
      clear h hp h0
      go_enter Try.func5, Try.ntmps5
      go_wp2_with fail
      refine (list_any _ [] _ HV.out).mono ?_
      rintro e w1 ⟨v1, rfl, o1, b1⟩
      have I1 := Lib.hid (o1.ints (by rw [List.length_take]; omega))
      clear o1
      go_wp2_with fail
      refine (franklin_bad _ _ HB.out _ I1.out).mono ?_
      rintro e w2 ⟨rfl, b2⟩
      have hb := b1.trans (b2.mono b1.size)
      clear b1 b2
      go_wp2_with fail
      refine (rValid_yes _ [] HP.out _ (HV.out.keep hb)).mono ?_
      rintro e _ ⟨rfl, rfl⟩
      go_wp2_with fail
      (with_reducible refine (awake_any _).mono ?_)
      rintro e wz ⟨rfl, bz⟩
      have hb9 := hb.trans (bz.mono hb.size)
      go_wp2_with fail
      go_ret
      exact ⟨rfl, hb9⟩
  · have HP := Lib.hid hp
    clear h hp
    go_enter Try.func5, Try.ntmps5
    go_wp2_with fail
    refine (list_any _ l _ HV.out).mono ?_
    rintro e w1 ⟨v1, rfl, o1, b1⟩
    have I1 := Lib.hid (o1.ints (by rw [List.length_take]; omega))
    clear o1
    go_wp2_with fail
    refine (franklin_bad _ _ HB.out _ I1.out).mono ?_
    rintro e w2 ⟨rfl, b2⟩
    have hb := b1.trans (b2.mono b1.size)
    clear b1 b2
    go_wp2_with fail
    refine (rValid_no _ l HP.out _ (HV.out.keep hb)).mono ?_
    rintro e _ ⟨rfl, rfl⟩
    go_wp2_with fail
    (with_reducible refine (awake_any _).mono ?_)
    rintro e wz ⟨rfl, bz⟩
    have hb9 := hb.trans (bz.mono hb.size)
    go_wp2_with fail
    go_ret
    exact ⟨rfl, hb9⟩
/-- Franklin's result, one of two -/
theorem franked_none {w : World} {l : List Int} (h : FR l = none) {e : Ending} {w' : World} (hf : Franked w l e w') : e = .returned (.tuple #[.slice none 0 0, .int .i64 5]) ∧ Below w.heap.size w w' := ⟨hf.1 h, hf.2.2⟩
theorem franked_some {w : World} {l r : List Int} (h : FR l = some r) {e : Ending} {w' : World} (hf : Franked w l e w') : ∃ v, e = .returned (.tuple #[v, .int .i64 0]) ∧ Own w' w.heap.size v r ∧ Below w.heap.size w w' := by
  obtain ⟨v, h1, h2⟩ := hf.2.1 r h
  exact ⟨v, h1, h2, hf.2.2⟩
set_option maxRecDepth 100000 in
set_option maxHeartbeats 8000000 in
theorem partsFranklin_good (v : Value) (l : List Int) (hp : Part l) (h0 : 0 < l.length) (hd : Dif l) (w : World) (hv : Ints w v l) :
    Calls Try.prog 5 #[v] w fun e w' => e = .returned (.bool true) ∧ Below w.heap.size w w' := by
  have HV := Lib.hid hv
  have HP := Lib.hid hp
  have HD := Lib.hid hd
  have HT := Lib.hid hp.take34
  obtain ⟨_, A, c, rfl, _, _⟩ := hv
  have hlz : ((l.length : Int) == 0) = false := by rw [beq_eq_false_iff_ne]; omega
  have hlz2 : (l.length == 0) = false := by rw [beq_eq_false_iff_ne]; omega
  obtain ⟨n, hn⟩ : ∃ n : Nat, l.sum = n := ⟨l.sum.toNat, by have := hp.sum0; omega⟩
  have HS := Lib.hid hn
  have HM := Lib.hid (move_ok hp hd n hn)
  have hl30 := hp.len
  clear hp hd hn
  go_enter Try.func5, Try.ntmps5
  go_wp2_with fail
  refine (list_any _ l _ HV.out).mono ?_
  rintro e w1 ⟨v1, rfl, o1, b1⟩
  rw [HT.out] at o1
  have I1 := Lib.hid (o1.ints (by omega))
  clear o1
  go_wp2_with fail
  cases hfr : FR l with
  | none =>
    have HF := Lib.hid hfr
    clear hfr
    refine (franklin_any _ l HP.out HD.out h0 _ I1.out).mono ?_
    intro e w2 hfk
    obtain ⟨rfl, b2⟩ := franked_none HF.out hfk
    have hb := b1.trans (b2.mono b1.size)
    clear b1 b2 hfk
    go_wp2_with fail
    refine (rValid_yes _ l HP.out _ (HV.out.keep hb)).mono ?_
    rintro e _ ⟨rfl, rfl⟩
    go_wp2_with fail
    refine (rDifferent_any _ l true (by simp; exact HD.out) _ (HV.out.keep hb)).mono ?_
    rintro e _ ⟨rfl, rfl⟩
    go_wp2_with fail
    refine (rFranklin_any _ l HP.out HD.out h0 _ (HV.out.keep hb)).mono ?_
    intro e w3 hfk
    obtain ⟨rfl, b3⟩ := franked_none HF.out hfk
    have hb3 := hb.trans (b3.mono hb.size)
    clear b3 hfk hb
    go_wp2_with fail
    refine (equal_yes _ _ [] _ (Ints.nil _) (Ints.nil _)).mono ?_
    rintro e w4 ⟨rfl, b4⟩
    have hb4 := hb3.trans (b4.mono hb3.size)
    clear b4 hb3
    go_wp2_with fail
    (with_reducible refine (awake_any _).mono ?_)
    rintro e wz ⟨rfl, bz⟩
    have hb9 := hb4.trans (bz.mono hb4.size)
    go_wp2_with fail
    go_ret
    exact ⟨rfl, hb9⟩
  | some r =>
    have HF := Lib.hid hfr
    have HR := Lib.hid (show r.length ≤ 31 by
      rcases Nat.eq_zero_or_pos n with e | hn1
      · exfalso
        have a := (sum_len l HP.out.1 l.length (Nat.le_refl _)).1
        rw [List.take_length, HS.out] at a
        omega
      · have := ((HM.out hn1).2 r hfr).1.len; omega)
    clear hfr
    refine (franklin_any _ l HP.out HD.out h0 _ I1.out).mono ?_
    intro e w2 hfk
    obtain ⟨va, rfl, oa, b2⟩ := franked_some HF.out hfk
    have hb := b1.trans (b2.mono b1.size)
    have IA := Lib.hid (oa.ints (by have := HR.out; omega))
    clear b1 b2 hfk oa
    go_wp2_with fail
    refine (rValid_yes _ l HP.out _ (HV.out.keep hb)).mono ?_
    rintro e _ ⟨rfl, rfl⟩
    go_wp2_with fail
    refine (rDifferent_any _ l true (by simp; exact HD.out) _ (HV.out.keep hb)).mono ?_
    rintro e _ ⟨rfl, rfl⟩
    go_wp2_with fail
    refine (rFranklin_any _ l HP.out HD.out h0 _ (HV.out.keep hb)).mono ?_
    intro e w3 hfk
    obtain ⟨vb, rfl, ob, b3⟩ := franked_some HF.out hfk
    have hb3 := hb.trans (b3.mono hb.size)
    have IB := Lib.hid (ob.ints (by have := HR.out; omega))
    have IA3 := Lib.hid (IA.out.keep b3)
    clear b3 hfk hb ob
    go_wp2_with fail
    refine (equal_yes _ _ r _ IA3.out IB.out).mono ?_
    rintro e w4 ⟨rfl, b4⟩
    have hb4 := hb3.trans (b4.mono hb3.size)
    clear b4 hb3
    go_wp2_with fail
    (with_reducible refine (awake_any _).mono ?_)
    rintro e wz ⟨rfl, bz⟩
    have hb9 := hb4.trans (bz.mono hb4.size)
    go_wp2_with fail
    go_ret
    exact ⟨rfl, hb9⟩
/-- The walk of PartsFranklin. -/
theorem partsFranklin_walk (w : World) (v : Value) (l : List Int) (hv : Ints w v l) (_ : ∀ n ∈ l, -9223372036854775808 ≤ n ∧ n ≤ 9223372036854775807) :
    Calls Try.prog 5 #[v] w fun e w' => e = .returned (.bool true) ∧ Below w.heap.size w w' := by
  by_cases h : Part l ∧ 0 < l.length ∧ Dif l
  · exact partsFranklin_good v l h.1 h.2.1 h.2.2 w hv
  · exact partsFranklin_bad v l h w hv
set_option maxRecDepth 100000 in
set_option maxHeartbeats 8000000 in
theorem partsMoved_bad (v : Value) (l : List Int) (h : ¬ (Part l ∧ 0 < l.length ∧ Dif l)) (w : World) (hv : Ints w v l) :
    Calls Try.prog 12 #[v] w fun e w' => e = .returned (.bool true) ∧ Below w.heap.size w w' := by
  have HV := Lib.hid hv
  have HB := Lib.hid (bad_take h)
  obtain ⟨_, A, c, rfl, _, _⟩ := hv
  clear h
  go_enter Try.func12, Try.ntmps12
  go_wp2_with fail
  refine (list_any _ l _ HV.out).mono ?_
  rintro e w1 ⟨v1, rfl, o1, b1⟩
  have I1 := Lib.hid (o1.ints (by rw [List.length_take]; omega))
  clear o1
  go_wp2_with fail
  refine (franklin_bad _ _ HB.out _ I1.out).mono ?_
  rintro e w2 ⟨rfl, b2⟩
  have hb := b1.trans (b2.mono b1.size)
  clear b1 b2
  go_wp2_with fail
  (with_reducible refine (awake_any _).mono ?_)
  rintro e wz ⟨rfl, bz⟩
  have hb9 := hb.trans (bz.mono hb.size)
  go_wp2_with fail
  go_ret
  exact ⟨rfl, hb9⟩
set_option maxRecDepth 100000 in
set_option maxHeartbeats 8000000 in
theorem partsMoved_good (v : Value) (l : List Int) (hp : Part l) (h0 : 0 < l.length) (hd : Dif l) (w : World) (hv : Ints w v l) :
    Calls Try.prog 12 #[v] w fun e w' => e = .returned (.bool true) ∧ Below w.heap.size w w' := by
  have HV := Lib.hid hv
  have HP := Lib.hid hp
  have HD := Lib.hid hd
  have HT := Lib.hid hp.take34
  obtain ⟨_, A, c, rfl, _, _⟩ := hv
  obtain ⟨n, hn⟩ : ∃ n : Nat, l.sum = n := ⟨l.sum.toNat, by have := hp.sum0; omega⟩
  have hn30 : n ≤ 30 := by have := hp.2; omega
  have hn1 : 1 ≤ n := by
    have a := (sum_len l hp.1 l.length (Nat.le_refl _)).1
    rw [List.take_length, hn] at a
    omega
  have HS := Lib.hid hn
  have HM := Lib.hid (move_ok hp hd n hn hn1)
  have hl30 := hp.len
  clear hp hd hn
  go_enter Try.func12, Try.ntmps12
  go_wp2_with fail
  refine (list_any _ l _ HV.out).mono ?_
  rintro e w1 ⟨v1, rfl, o1, b1⟩
  rw [HT.out] at o1
  have I1 := Lib.hid (o1.ints (by omega))
  clear o1
  go_wp2_with fail
  cases hfr : FR l with
  | none =>
    have HF := Lib.hid hfr
    have HE := Lib.hid (show En n n = 1 - 2 * ((l.length : Int) % 2) by have := HM.out.1 hfr; omega)
    clear hfr
    refine (franklin_any _ l HP.out HD.out h0 _ I1.out).mono ?_
    intro e w2 hfk
    obtain ⟨rfl, b2⟩ := franked_none HF.out hfk
    have hb := b1.trans (b2.mono b1.size)
    clear b1 b2 hfk
    go_wp2_with fail
    refine (rSum_any _ l HP.out.1 (by omega) _ (HV.out.keep hb)).mono ?_
    rintro e _ ⟨rfl, rfl⟩
    rw [HS.out]
    go_wp2_with fail
    refine (Pentagonal_ok n (by omega) _).mono ?_
    rintro e w3 ⟨rfl, b3⟩
    rw [HE.out]
    have hb3 := hb.trans (b3.mono hb.size)
    clear b3 hb
    go_wp2_with fail
    (with_reducible refine (awake_any _).mono ?_)
    rintro e wz ⟨rfl, bz⟩
    have hb9 := hb3.trans (bz.mono hb3.size)
    go_wp2_with fail
    go_ret
    exact ⟨rfl, hb9⟩
  | some r =>
    have HF := Lib.hid hfr
    have hm := HM.out.2 r hfr
    have HPR := Lib.hid hm.1
    have HDR := Lib.hid hm.2.1
    have h0r := hm.2.2.1
    have HFR := Lib.hid hm.2.2.2.1
    have hlen := hm.2.2.2.2.1
    have HSR := Lib.hid hm.2.2.2.2.2
    have hr30 := HPR.out.len
    clear hfr hm
    refine (franklin_any _ l HP.out HD.out h0 _ I1.out).mono ?_
    intro e w2 hfk
    obtain ⟨va, rfl, oa, b2⟩ := franked_some HF.out hfk
    have hb := b1.trans (b2.mono b1.size)
    have IA := Lib.hid (oa.ints (by omega))
    clear b1 b2 hfk oa
    obtain ⟨_, Aa, ca, rfl, _, _⟩ := IA.out
    go_wp2_with fail
    refine (clone_any _ r _ IA.out).mono ?_
    rintro e w3 ⟨v3, rfl, o3, b3⟩
    have hb3 := hb.trans (b3.mono hb.size)
    have I3 := Lib.hid (o3.ints (by omega))
    have IA3 := Lib.hid (IA.out.keep b3)
    clear b3 o3 hb
    go_wp2_with fail
    refine (franklin_any _ r HPR.out HDR.out h0r _ I3.out).mono ?_
    intro e w4 hfk
    obtain ⟨vb, rfl, ob, b4⟩ := franked_some HFR.out hfk
    have hb4 := hb3.trans (b4.mono hb3.size)
    have IB := Lib.hid (ob.ints (by omega))
    have IA4 := Lib.hid (IA3.out.keep b4)
    clear b4 ob hfk hb3
    rcases hlen with hlen | hlen
    · have hdd : (r.length : Int) - (l.length : Int) = 1 := by omega
      have HLEN := Lib.hid hlen
      clear hlen
      go_wp2_with fail
      refine (equal_yes _ _ l _ IB.out (HV.out.keep hb4)).mono ?_
      rintro e w5 ⟨rfl, b5⟩
      have hb5 := hb4.trans (b5.mono hb4.size)
      have IA5 := Lib.hid (IA4.out.keep b5)
      clear b5 hb4
      go_wp2_with fail
      refine (rSum_any _ r HPR.out.1 (by omega) _ IA5.out).mono ?_
      rintro e _ ⟨rfl, rfl⟩
      rw [HSR.out]
      go_wp2_with fail
      refine (rSum_any _ l HP.out.1 (by omega) _ (HV.out.keep hb5)).mono ?_
      rintro e _ ⟨rfl, rfl⟩
      rw [HS.out]
      go_wp2_with fail
      (with_reducible refine (awake_any _).mono ?_)
      rintro e wz ⟨rfl, bz⟩
      have hb9 := hb5.trans (bz.mono hb5.size)
      go_wp2_with fail
      go_ret
      exact ⟨rfl, hb9⟩
    · have hdd : (r.length : Int) - (l.length : Int) = -1 := by omega
      have HLEN := Lib.hid hlen
      clear hlen
      go_wp2_with fail
      refine (equal_yes _ _ l _ IB.out (HV.out.keep hb4)).mono ?_
      rintro e w5 ⟨rfl, b5⟩
      have hb5 := hb4.trans (b5.mono hb4.size)
      have IA5 := Lib.hid (IA4.out.keep b5)
      clear b5 hb4
      go_wp2_with fail
      refine (rSum_any _ r HPR.out.1 (by omega) _ IA5.out).mono ?_
      rintro e _ ⟨rfl, rfl⟩
      rw [HSR.out]
      go_wp2_with fail
      refine (rSum_any _ l HP.out.1 (by omega) _ (HV.out.keep hb5)).mono ?_
      rintro e _ ⟨rfl, rfl⟩
      rw [HS.out]
      go_wp2_with fail
      (with_reducible refine (awake_any _).mono ?_)
      rintro e wz ⟨rfl, bz⟩
      have hb9 := hb5.trans (bz.mono hb5.size)
      go_wp2_with fail
      go_ret
      exact ⟨rfl, hb9⟩
/-- The walk of PartsMoved. -/
theorem partsMoved_walk (w : World) (v : Value) (l : List Int) (hv : Ints w v l) (_ : ∀ n ∈ l, -9223372036854775808 ≤ n ∧ n ≤ 9223372036854775807) :
    Calls Try.prog 12 #[v] w fun e w' => e = .returned (.bool true) ∧ Below w.heap.size w w' := by
  by_cases h : Part l ∧ 0 < l.length ∧ Dif l
  · exact partsMoved_good v l h.1 h.2.1 h.2.2 w hv
  · exact partsMoved_bad v l h w hv
end Go.Proofs.Ytpgpkgnljoedaaa
