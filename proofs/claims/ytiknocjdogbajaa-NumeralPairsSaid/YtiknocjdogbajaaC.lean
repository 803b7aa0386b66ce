/- Walks: valid and Value of numeral; the reference's F, Number, sized, Encode, Value, Told, Valid. -/
import Derived.Test.YtiknocjdogbajaaB
namespace Go.Proofs.Ytiknocjdogbajaa
open Go.RowKit

/-- index j of xs fits a numeral -/
def Good (xs : List Int) (j : Nat) : Prop := 2 ≤ xs.getD j 0 ∧ xs.getD j 0 ≤ 60 ∧ (0 < j → xs.getD j 0 + 2 ≤ xs.getD (j - 1) 0)
/-- b good indices lead xs; then comes the end or a bad one -/
def Lead (xs : List Int) (b : Nat) : Prop := b ≤ xs.length ∧ (∀ j, j < b → Good xs j) ∧ (b < xs.length → ¬ Good xs b)
theorem lead_some (xs : List Int) : ∃ b, Lead xs b := by
  have : ∀ n, n ≤ xs.length → (∀ j, j < n → Good xs j) ∨ ∃ b, b < n ∧ (∀ j, j < b → Good xs j) ∧ ¬ Good xs b := by
    intro n
    induction n with
    | zero => intro _; exact .inl (fun j h => absurd h (by omega))
    | succ n ih =>
      intro hn
      rcases ih (by omega) with h | ⟨b, h1, h2, h3⟩
      · by_cases hg : Good xs n
        · refine .inl (fun j hj => ?_)
          rcases Nat.lt_or_ge j n with h4 | h4
          · exact h j h4
          · have : j = n := by omega
            subst this; exact hg
        · exact .inr ⟨n, by omega, h, hg⟩
      · exact .inr ⟨b, by omega, h2, h3⟩
  rcases this xs.length (Nat.le_refl _) with h | ⟨b, h1, h2, h3⟩
  · exact ⟨xs.length, Nat.le_refl _, h, fun h => absurd h (by omega)⟩
  · exact ⟨b, by omega, h2, fun _ => h3⟩
theorem lead_falls (xs : List Int) (h : ∀ j, j < xs.length → Good xs j) : ∃ l, xs = ix l ∧ Falls 60 l := by
  suffices ∀ (n : Nat) (xs : List Int) (K : Nat), xs.length = n → (∀ j, j < xs.length → 2 ≤ xs.getD j 0 ∧ (j = 0 → xs.getD j 0 ≤ K) ∧ (0 < j → xs.getD j 0 + 2 ≤ xs.getD (j - 1) 0)) → ∃ l, xs = ix l ∧ Falls K l from
    this xs.length xs 60 rfl (fun j hj => ⟨(h j hj).1, fun _ => (h j hj).2.1, (h j hj).2.2⟩)
  intro n
  induction n with
  | zero => intro xs K hn _; exact ⟨[], by rw [List.eq_nil_of_length_eq_zero hn]; rfl, trivial⟩
  | succ n ih =>
    intro xs K hn hg
    match xs, hn with
    | x :: xs, hn =>
      have h0 := hg 0 (by simp)
      simp at h0
      obtain ⟨l, hl, hf⟩ := ih xs (x.toNat - 2) (by simpa using hn) (fun j hj => by
        have h1 := hg (j + 1) (by simp; omega)
        have e : (x :: xs).getD (j + 1) 0 = xs.getD j 0 := by simp
        rw [e] at h1
        refine ⟨h1.1, fun hj0 => ?_, fun hj0 => ?_⟩
        · subst hj0
          have := h1.2.2 (by omega)
          simp at this ⊢
          omega
        · have := h1.2.2 (by omega)
          have e : (x :: xs).getD (j + 1 - 1) 0 = xs.getD (j - 1) 0 := by
            match j, hj0 with
            | j + 1, _ => simp
          rw [e] at this
          exact this)
      exact ⟨x.toNat :: l, by simp [ix, hl]; omega, ⟨by omega, by omega, hf⟩⟩
theorem falls_good (l : List Nat) (K : Nat) (h : Falls K l) (hK : K ≤ 60) : ∀ j, j < (ix l).length → Good (ix l) j := by
  induction l generalizing K with
  | nil => intro j hj; simp [ix] at hj
  | cons a l ih =>
    intro j hj
    obtain ⟨h1, h2, h3⟩ := h
    match j with
    | 0 => exact ⟨by simp [ix]; omega, by simp [ix]; omega, fun h => absurd h (by omega)⟩
    | j + 1 =>
      have := ih (a - 2) h3 (by omega) j (by simpa [ix] using hj)
      have e : (ix (a :: l)).getD (j + 1) 0 = (ix l).getD j 0 := by simp [ix]
      refine ⟨by rw [e]; exact this.1, by rw [e]; exact this.2.1, fun _ => ?_⟩
      rw [e]
      match j with
      | 0 =>
        match l, h3 with
        | [], _ => simp [ix] at hj
        | b :: l, h3 =>
          have := h3.2.1
          have := h3.1
          simp [ix]; omega
      | j + 1 =>
        have h4 := this.2.2 (by omega)
        have e2 : (ix (a :: l)).getD (j + 1 + 1 - 1) 0 = (ix l).getD (j + 1 - 1) 0 := by simp [ix]
        rw [e2]; exact h4
theorem falls_length {K : Nat} {l : List Nat} (h : Falls K l) : 2 * l.length ≤ K := by
  induction l generalizing K with
  | nil => simp
  | cons a l ih =>
    have := ih h.2.2
    have := h.1
    have := h.2.1
    simp
    omega

set_option maxHeartbeats 2000000 in
theorem valid_any (v : Value) (xs : List Int) (b : Nat) (hb : Lead xs b) (hbd : ∀ n ∈ xs, -9223372036854775808 ≤ n ∧ n ≤ 9223372036854775807) (w : World) (hv : Ints w v xs) :
    Calls Try.prog 55 #[v] w fun e w' => e = .returned (.bool (decide (b = xs.length))) ∧ w = w' := by
  obtain ⟨hlen, A, c, rfl, hc, hr⟩ := hv
  obtain ⟨hb1, hb2, hb3⟩ := hb
  have HR := Lib.hid hr; clear hr
  have H2 := Lib.hid hb2; clear hb2
  have H3 := Lib.hid hb3; clear hb3
  have HB := Lib.hid hbd; clear hbd
  go_enter Try.func55, Try.ntmps55
  go_wp2
  go_loop [3, 4, 7] (fun _ _ i => ∃ k : Nat, k ≤ b ∧ i = .int .i64 k) (fun _ _ i => xs.length - (intOf i).toNat)
  case atStart => exact ⟨0, Nat.zero_le _, rfl⟩
  case round =>
    obtain ⟨k, hk, rfl⟩ := hrel
    by_cases hlt : k < xs.length
    · obtain ⟨ad, rfl, hbl, hcell⟩ := HR.out (by omega)
      have hx : xs[k]? = some (xs.getD k 0) := by simp [List.getD, List.getElem?_eq_getElem hlt]
      have hck := hcell k _ hx
      have hbk := HB.out (xs.getD k 0) (List.mem_of_getElem? hx)
      by_cases hkb : k < b
      · have hg := H2.out k hkb
        unfold Good at hg
        by_cases h0 : 0 < k
        · have hx' : xs[k - 1]? = some (xs.getD (k - 1) 0) := by simp [List.getD, List.getElem?_eq_getElem (show k - 1 < xs.length by omega)]
          have hck' := hcell (k - 1) _ hx'
          have hbk' := HB.out (xs.getD (k - 1) 0) (List.mem_of_getElem? hx')
          have hg3 := hg.2.2 h0
          obtain ⟨g1, g2, _⟩ := hg
          generalize xs.getD k 0 = x at *
          generalize xs.getD (k - 1) 0 = y at *
          clear hcell hx hx' HR
          have k1 : (0 : Int) < k := by omega
          have ek : ((k : Int) - 1).toNat = k - 1 := by omega
          have hd1 : decide (x < 2) = false := by simp; omega
          have hd2 : decide (60 < x) = false := by simp; omega
          have hd3 : decide (y < x + 2) = false := by simp; omega
          go_wp2
          go_round
          case rel => exact ⟨k + 1, by omega, by go_num⟩
          case measure => simp [intOf]; omega
        · have hk0 : k = 0 := by omega
          subst hk0
          obtain ⟨g1, g2, _⟩ := hg
          have hck : w.cell? ad = some (.int .i64 (xs.getD 0 0)) := hck
          generalize xs.getD 0 0 = x at *
          clear hcell hx HR
          have hd1 : decide (x < 2) = false := by simp; omega
          have hd2 : decide (60 < x) = false := by simp; omega
          go_wp2
          go_round
          case rel => exact ⟨1, by omega, by go_num⟩
          case measure => simp [intOf]; omega
      · have hkb' : k = b := by omega
        have hres : decide (b = xs.length) = false := by simp; omega
        have HRES := Lib.hid hres; clear hres
        have hg : ¬ Good xs k := by rw [hkb']; exact H3.out (by omega)
        unfold Good at hg
        clear hkb'
        by_cases c1 : xs.getD k 0 < 2
        · generalize xs.getD k 0 = x at *
          clear hcell hx HR hg
          have hd1 : decide (x < 2) = true := by simp; omega
          go_wp2
          go_ret
          exact ⟨by rw [HRES.out]; rfl, rfl⟩
        · by_cases c2 : 60 < xs.getD k 0
          · generalize xs.getD k 0 = x at *
            clear hcell hx HR hg
            have hd1 : decide (x < 2) = false := by simp; omega
            have hd2 : decide (60 < x) = true := by simp; omega
            go_wp2
            go_ret
            exact ⟨by rw [HRES.out]; rfl, rfl⟩
          · by_cases h0 : 0 < k
            · have hx' : xs[k - 1]? = some (xs.getD (k - 1) 0) := by simp [List.getD, List.getElem?_eq_getElem (show k - 1 < xs.length by omega)]
              have hck' := hcell (k - 1) _ hx'
              have hbk' := HB.out (xs.getD (k - 1) 0) (List.mem_of_getElem? hx')
              have c3 : xs.getD (k - 1) 0 < xs.getD k 0 + 2 := by
                rcases Int.lt_or_le (xs.getD (k - 1) 0) (xs.getD k 0 + 2) with h | h
                · exact h
                · exact absurd ⟨by omega, by omega, fun _ => h⟩ hg
              generalize xs.getD k 0 = x at *
              generalize xs.getD (k - 1) 0 = y at *
              clear hcell hx hx' HR hg
              have k1 : (0 : Int) < k := by omega
              have ek : ((k : Int) - 1).toNat = k - 1 := by omega
              have hd1 : decide (x < 2) = false := by simp; omega
              have hd2 : decide (60 < x) = false := by simp; omega
              have hd3 : decide (y < x + 2) = true := by simp; omega
              go_wp2
              go_ret
              exact ⟨by rw [HRES.out]; rfl, rfl⟩
            · exact absurd ⟨by omega, by omega, fun h => absurd h h0⟩ hg
    · have hkl : b = xs.length := by omega
      have hres : decide (b = xs.length) = true := by simp; omega
      have HRES := Lib.hid hres; clear hres hkl
      go_wp2
      go_ret
      exact ⟨by rw [HRES.out]; rfl, rfl⟩

set_option maxHeartbeats 2000000 in
theorem rValid_any (v : Value) (xs : List Int) (b : Nat) (hb : Lead xs b) (hbd : ∀ n ∈ xs, -9223372036854775808 ≤ n ∧ n ≤ 9223372036854775807) (w : World) (hv : Ints w v xs) :
    Calls Try.prog 25 #[v] w fun e w' => e = .returned (.bool (decide (b = xs.length))) ∧ w = w' := by
  obtain ⟨hlen, A, c, rfl, hc, hr⟩ := hv
  obtain ⟨hb1, hb2, hb3⟩ := hb
  have HR := Lib.hid hr; clear hr
  have H2 := Lib.hid hb2; clear hb2
  have H3 := Lib.hid hb3; clear hb3
  have HB := Lib.hid hbd; clear hbd
  go_enter Try.func25, Try.ntmps25
  go_wp2
  go_loop [3, 4, 7] (fun _ _ i => ∃ k : Nat, k ≤ b ∧ i = .int .i64 k) (fun _ _ i => xs.length - (intOf i).toNat)
  case atStart => exact ⟨0, Nat.zero_le _, rfl⟩
  case round =>
    obtain ⟨k, hk, rfl⟩ := hrel
    by_cases hlt : k < xs.length
    · obtain ⟨ad, rfl, hbl, hcell⟩ := HR.out (by omega)
      have hx : xs[k]? = some (xs.getD k 0) := by simp [List.getD, List.getElem?_eq_getElem hlt]
      have hck := hcell k _ hx
      have hbk := HB.out (xs.getD k 0) (List.mem_of_getElem? hx)
      by_cases hkb : k < b
      · have hg := H2.out k hkb
        unfold Good at hg
        by_cases h0 : 0 < k
        · have hx' : xs[k - 1]? = some (xs.getD (k - 1) 0) := by simp [List.getD, List.getElem?_eq_getElem (show k - 1 < xs.length by omega)]
          have hck' := hcell (k - 1) _ hx'
          have hbk' := HB.out (xs.getD (k - 1) 0) (List.mem_of_getElem? hx')
          have hg3 := hg.2.2 h0
          obtain ⟨g1, g2, _⟩ := hg
          generalize xs.getD k 0 = x at *
          generalize xs.getD (k - 1) 0 = y at *
          clear hcell hx hx' HR
          have k1 : (0 : Int) < k := by omega
          have ek : ((k : Int) - 1).toNat = k - 1 := by omega
          have hd1 : decide (x < 2) = false := by simp; omega
          have hd2 : decide (60 < x) = false := by simp; omega
          have hd3 : decide (y < x + 2) = false := by simp; omega
          go_wp2
          go_round
          case rel => exact ⟨k + 1, by omega, by go_num⟩
          case measure => simp [intOf]; omega
        · have hk0 : k = 0 := by omega
          subst hk0
          obtain ⟨g1, g2, _⟩ := hg
          have hck : w.cell? ad = some (.int .i64 (xs.getD 0 0)) := hck
          generalize xs.getD 0 0 = x at *
          clear hcell hx HR
          have hd1 : decide (x < 2) = false := by simp; omega
          have hd2 : decide (60 < x) = false := by simp; omega
          go_wp2
          go_round
          case rel => exact ⟨1, by omega, by go_num⟩
          case measure => simp [intOf]; omega
      · have hkb' : k = b := by omega
        have hres : decide (b = xs.length) = false := by simp; omega
        have HRES := Lib.hid hres; clear hres
        have hg : ¬ Good xs k := by rw [hkb']; exact H3.out (by omega)
        unfold Good at hg
        clear hkb'
        by_cases c1 : xs.getD k 0 < 2
        · generalize xs.getD k 0 = x at *
          clear hcell hx HR hg
          have hd1 : decide (x < 2) = true := by simp; omega
          go_wp2
          go_ret
          exact ⟨by rw [HRES.out]; rfl, rfl⟩
        · by_cases c2 : 60 < xs.getD k 0
          · generalize xs.getD k 0 = x at *
            clear hcell hx HR hg
            have hd1 : decide (x < 2) = false := by simp; omega
            have hd2 : decide (60 < x) = true := by simp; omega
            go_wp2
            go_ret
            exact ⟨by rw [HRES.out]; rfl, rfl⟩
          · by_cases h0 : 0 < k
            · have hx' : xs[k - 1]? = some (xs.getD (k - 1) 0) := by simp [List.getD, List.getElem?_eq_getElem (show k - 1 < xs.length by omega)]
              have hck' := hcell (k - 1) _ hx'
              have hbk' := HB.out (xs.getD (k - 1) 0) (List.mem_of_getElem? hx')
              have c3 : xs.getD (k - 1) 0 < xs.getD k 0 + 2 := by
                rcases Int.lt_or_le (xs.getD (k - 1) 0) (xs.getD k 0 + 2) with h | h
                · exact h
                · exact absurd ⟨by omega, by omega, fun _ => h⟩ hg
              generalize xs.getD k 0 = x at *
              generalize xs.getD (k - 1) 0 = y at *
              clear hcell hx hx' HR hg
              have k1 : (0 : Int) < k := by omega
              have ek : ((k : Int) - 1).toNat = k - 1 := by omega
              have hd1 : decide (x < 2) = false := by simp; omega
              have hd2 : decide (60 < x) = false := by simp; omega
              have hd3 : decide (y < x + 2) = true := by simp; omega
              go_wp2
              go_ret
              exact ⟨by rw [HRES.out]; rfl, rfl⟩
            · exact absurd ⟨by omega, by omega, fun h => absurd h h0⟩ hg
    · have hkl : b = xs.length := by omega
      have hres : decide (b = xs.length) = true := by simp; omega
      have HRES := Lib.hid hres; clear hres hkl
      go_wp2
      go_ret
      exact ⟨by rw [HRES.out]; rfl, rfl⟩


/-- xs is a numeral -/
def IsNum (xs : List Int) : Prop := ∃ l, xs = ix l ∧ Falls 60 l
theorem isNum_lead {xs : List Int} (h : IsNum xs) : Lead xs xs.length := by
  obtain ⟨l, rfl, hf⟩ := h
  exact ⟨Nat.le_refl _, falls_good l 60 hf (by omega), fun h => absurd h (by omega)⟩
theorem lead_isNum {xs : List Int} {b : Nat} (h : Lead xs b) (hn : ¬ IsNum xs) : b ≠ xs.length := by
  rintro rfl
  obtain ⟨l, e, hf⟩ := lead_falls xs h.2.1
  exact hn ⟨l, e, hf⟩
theorem ix_bounds {l : List Nat} (h : Falls 60 l) : ∀ n ∈ ix l, -9223372036854775808 ≤ n ∧ n ≤ 9223372036854775807 := by
  intro n hn
  obtain ⟨k, hk, rfl⟩ := List.mem_map.1 hn
  have := falls_mem h k hk
  omega

theorem valid_yes (v : Value) (l : List Nat) (h : Falls 60 l) (w : World) (hv : Ints w v (ix l)) :
    Calls Try.prog 55 #[v] w fun e w' => e = .returned (.bool true) ∧ w = w' :=
  (valid_any v (ix l) (ix l).length (isNum_lead ⟨l, rfl, h⟩) (ix_bounds h) w hv).mono fun e w' ⟨he, hw⟩ => ⟨by rw [he]; simp, hw⟩
theorem valid_no (v : Value) (xs : List Int) (h : ¬ IsNum xs) (hbd : ∀ n ∈ xs, -9223372036854775808 ≤ n ∧ n ≤ 9223372036854775807) (w : World) (hv : Ints w v xs) :
    Calls Try.prog 55 #[v] w fun e w' => e = .returned (.bool false) ∧ w = w' := by
  obtain ⟨b, hb⟩ := lead_some xs
  have hn := lead_isNum hb h
  exact (valid_any v xs b hb hbd w hv).mono fun e w' ⟨he, hw⟩ => ⟨by rw [he]; simp [hn], hw⟩

theorem rValid_yes (v : Value) (l : List Nat) (h : Falls 60 l) (w : World) (hv : Ints w v (ix l)) :
    Calls Try.prog 25 #[v] w fun e w' => e = .returned (.bool true) ∧ w = w' :=
  (rValid_any v (ix l) (ix l).length (isNum_lead ⟨l, rfl, h⟩) (ix_bounds h) w hv).mono fun e w' ⟨he, hw⟩ => ⟨by rw [he]; simp, hw⟩
theorem rValid_no (v : Value) (xs : List Int) (h : ¬ IsNum xs) (hbd : ∀ n ∈ xs, -9223372036854775808 ≤ n ∧ n ≤ 9223372036854775807) (w : World) (hv : Ints w v xs) :
    Calls Try.prog 25 #[v] w fun e w' => e = .returned (.bool false) ∧ w = w' := by
  obtain ⟨b, hb⟩ := lead_some xs
  have hn := lead_isNum hb h
  exact (rValid_any v xs b hb hbd w hv).mono fun e w' ⟨he, hw⟩ => ⟨by rw [he]; simp [hn], hw⟩


theorem falls_vsum {l : List Nat} (h : Falls 60 l) : vsum F l ≤ 2504730781960 := by
  have := falls_sum_lt 60 l h
  rw [F_61] at this
  omega
set_option maxHeartbeats 1000000 in
theorem Value_yes (v : Value) (l : List Nat) (h : Falls 60 l) (hs : vsum F l ≤ 1000000000000) (w : World) (hv : Ints w v (ix l)) :
    Calls Try.prog 20 #[v] w fun e w' => e = .returned (.tuple #[.int .i64 (vsum F l), .int .i64 0]) ∧ w = w' := by
  have H := Lib.hid h
  have HV := Lib.hid hv
  have HM := Lib.hid (falls_mem h)
  have e0 := vs_zero l
  clear h hv
  rw [← e0]
  have hs' : vs 0 l ≤ 1000000000000 := by omega
  have HE := Lib.hid e0; clear e0
  clear hs
  go_enter Try.func20, Try.ntmps20
  go_wp2_with (first
    | (go_at_call 55; refine (valid_yes _ l H.out _ HV.out).mono ?_; rintro e w1 ⟨rfl, rfl⟩)
    | (go_at_call 53; refine (value_any v l 0 (by omega) (by omega) HM.out (by rw [← HE.out]; omega) _ HV.out).mono ?_; rintro e w2 ⟨rfl, rfl⟩)
    | (go_at_call 51; refine (sized_yes _ (by omega) _).mono ?_; rintro e w2 ⟨rfl, rfl⟩))
  go_ret2
  exact ⟨rfl, rfl⟩
set_option maxHeartbeats 1000000 in
theorem Value_big (v : Value) (l : List Nat) (h : Falls 60 l) (hs : 1000000000000 < vsum F l) (w : World) (hv : Ints w v (ix l)) :
    Calls Try.prog 20 #[v] w fun e w' => e = .returned (.tuple #[.int .i64 0, .int .i64 6]) ∧ w = w' := by
  have H := Lib.hid h
  have HV := Lib.hid hv
  have HM := Lib.hid (falls_mem h)
  have hle := falls_vsum h
  have e0 := vs_zero l
  clear h hv
  have hs' : 1000000000000 < vs 0 l := by omega
  have hle' : vsum F l ≤ 4000000000000 := by omega
  clear e0 hle hs
  go_enter Try.func20, Try.ntmps20
  go_wp2_with (first
    | (go_at_call 55; refine (valid_yes _ l H.out _ HV.out).mono ?_; rintro e w1 ⟨rfl, rfl⟩)
    | (go_at_call 53; refine (value_any v l 0 (by omega) (by omega) HM.out hle' _ HV.out).mono ?_; rintro e w2 ⟨rfl, rfl⟩)
    | (go_at_call 51; refine (sized_no _ (by omega) _).mono ?_; rintro e w2 ⟨rfl, rfl⟩))
  go_ret2
  exact ⟨rfl, rfl⟩
theorem Value_no (v : Value) (xs : List Int) (h : ¬ IsNum xs) (hbd : ∀ n ∈ xs, -9223372036854775808 ≤ n ∧ n ≤ 9223372036854775807) (w : World) (hv : Ints w v xs) :
    Calls Try.prog 20 #[v] w fun e w' => e = .returned (.tuple #[.int .i64 0, .int .i64 2]) ∧ w = w' := by
  have H := Lib.hid h
  have HV := Lib.hid hv
  have HB := Lib.hid hbd
  clear h hv hbd
  go_enter Try.func20, Try.ntmps20
  go_wp2_with (first
    | (go_at_call 55; refine (valid_no _ xs H.out HB.out _ HV.out).mono ?_; rintro e w1 ⟨rfl, rfl⟩))
  go_ret2
  exact ⟨rfl, rfl⟩

/-! ### the reference -/
set_option maxHeartbeats 400000 in
theorem rF_nat (n : Nat) (hn : n ≤ 90) (w : World) :
    Calls Try.prog 56 #[.int .i64 n] w fun e w' => e = .returned (.int .i64 (F n)) ∧ w = w' := by
  go_enter Try.func56, Try.ntmps56
  go_wp2
  go_loop [3, 4, 6] (fun a b i => ∃ k : Nat, k ≤ n ∧ i = .int .i64 k ∧ a = .int .i64 (F k) ∧ b = .int .i64 (F (k+1))) (fun _ _ i => n - (intOf i).toNat)
  case atStart => exact ⟨0, Nat.zero_le _, rfl, rfl, rfl⟩
  case round =>
    obtain ⟨k, hk, rfl, rfl, rfl⟩ := hrel
    by_cases hlt : k < n
    · have h2 := F_le (k+2) (by omega)
      rw [F_step] at h2
      go_wp2
      go_round
      case rel => exact ⟨k + 1, by omega, by go_num, rfl, by rw [F_step]; go_num⟩
      case measure => simp [intOf]; omega
    · have hkn : k = n := by omega
      go_wp2
      go_ret
      exact ⟨rfl, rfl⟩
theorem rF_any (z : Int) (h0 : 0 ≤ z) (h1 : z ≤ 90) (w : World) :
    Calls Try.prog 56 #[.int .i64 z] w fun e w' => e = .returned (.int .i64 (F z.toNat)) ∧ w = w' := by
  obtain ⟨n, rfl⟩ := Int.eq_ofNat_of_zero_le h0
  exact rF_nat n (by omega) w
theorem rNumber_yes (n : Int) (h : 0 ≤ n) (h1 : n ≤ 1000000000000) (w : World) :
    Calls Try.prog 22 #[.int .i64 n] w fun e w' => e = .returned (.bool true) ∧ w = w' := by
  go_enter Try.func22, Try.ntmps22
  go_wp2
  go_ret
  exact ⟨rfl, rfl⟩
theorem rNumber_no (n : Int) (h : n < 0 ∨ 1000000000000 < n) (w : World) :
    Calls Try.prog 22 #[.int .i64 n] w fun e w' => e = .returned (.bool false) ∧ w = w' := by
  by_cases h0 : 0 ≤ n
  · have h1 : decide (n ≤ 1000000000000) = false := by simp; omega
    clear h
    go_enter Try.func22, Try.ntmps22
    go_wp2
    go_ret
    exact ⟨rfl, rfl⟩
  · clear h
    go_enter Try.func22, Try.ntmps22
    go_wp2
    go_ret
    exact ⟨rfl, rfl⟩
theorem rsized_yes (n : Int) (h : n ≤ 1000000000000) (w : World) :
    Calls Try.prog 57 #[.int .i64 n] w fun e w' => e = .returned (.tuple #[.int .i64 n, .int .i64 0]) ∧ w = w' := by
  go_enter Try.func57, Try.ntmps57
  go_wp2
  go_ret2
  exact ⟨rfl, rfl⟩
theorem rsized_no (n : Int) (h : 1000000000000 < n) (w : World) :
    Calls Try.prog 57 #[.int .i64 n] w fun e w' => e = .returned (.tuple #[.int .i64 0, .int .i64 6]) ∧ w = w' := by
  go_enter Try.func57, Try.ntmps57
  go_wp2
  go_ret2
  exact ⟨rfl, rfl⟩
theorem zk_more (n : Nat) (h : n ≤ 1000000000000) (j : Nat) : zk (60 + j) n = zk 60 n := by
  induction j with
  | zero => rfl
  | succ j ih =>
    have : n < F (60 + (j + 1)) := by
      have := F_mono (show 60 ≤ 60 + (j + 1) by omega)
      rw [F_60] at this
      omega
    rw [zk_skip (by omega) this]
    exact ih
theorem F_71 : F 71 = 308061521170129 := F_of _ _ (by decide +kernel)
set_option maxHeartbeats 1000000 in
theorem rEncode_nat (n : Nat) (hn : n ≤ 1000000000000) (w : World) :
    Calls Try.prog 24 #[.int .i64 n] w fun e w' => ∃ v, e = .returned v ∧ Ints w' v (ix (zeck n)) ∧ Below w.heap.size w w' := by
  have e70 := zk_more n hn 10
  have E := Lib.hid e70; clear e70
  go_enter Try.func24, Try.ntmps24
  go_wp2
  go_loopw [0, 3, 4] (fun vn v i wr => ∃ (k m : Nat) (l : List Nat), 1 ≤ k ∧ k ≤ 70 ∧ m < F (k + 1) ∧ m ≤ n ∧ i = .int .i64 k ∧ vn = .int .i64 m ∧ zk 70 n = l ++ zk k m ∧ l.length + k ≤ 70 ∧
      Own wr w.heap.size v (ix l) ∧ Below w.heap.size w wr)
    (fun _ _ i _ => (intOf i).toNat)
  case atStart =>
    exact ⟨70, n, [], by omega, Nat.le_refl _, by rw [F_71]; omega, Nat.le_refl _, rfl, rfl, rfl, by simp, Own.nil _ _, Below.refl _ _⟩
  case round =>
    obtain ⟨k, m, l, hk1, hk, hm, hmn, rfl, rfl, hz, hl, hown, hb⟩ := hrel
    have HZ := Lib.hid hz; clear hz
    by_cases hk2 : 2 ≤ k
    · have hb90 := F_le k (by omega)
      by_cases hf : F k ≤ m
      · go_wp2_with (first
          | (go_at_call 56; refine (rF_nat k (by omega) _).mono ?_; rintro e w1 ⟨rfl, rfl⟩)
          | (at_builtin; refine wpList_append_new _ rfl _ _ 30 rfl Try.underlying30 w.heap.size u3 (ix l) rfl hown k rfl (by rw [ix_length]; omega) hb.size ?_; intro v' w1 hown1 _ hb1))
        go_roundw
        case rel =>
          have hstep : F (k + 1) = F k + F (k - 1) := by
            match k, hk2 with
            | k + 2, _ => exact F_step _
          refine ⟨k - 1, m - F k, l ++ [k], by omega, by omega, ?_, by omega, by go_num, by go_num, ?_, by simp; omega, ?_, hb.trans hb1⟩
          · have : k - 1 + 1 = k := by omega
            rw [this]
            have := F_mono_succ (k - 1)
            rw [‹k - 1 + 1 = k›] at this
            omega
          · rw [HZ.out, zk_take hk2 hf]; simp
          · rw [ix_append]; exact hown1
        case measure => simp [intOf]; omega
      · go_wp2_with (first
          | (go_at_call 56; refine (rF_nat k (by omega) _).mono ?_; rintro e w1 ⟨rfl, rfl⟩))
        go_roundw
        case rel =>
          refine ⟨k - 1, m, l, by omega, by omega, ?_, by omega, by go_num, rfl, ?_, by omega, hown, hb⟩
          · have : k - 1 + 1 = k := by omega
            rw [this]; omega
          · rw [HZ.out, zk_skip hk2 (by omega)]
        case measure => simp [intOf]; omega
    · have hk' : k = 1 := by omega
      subst hk'
      go_wp2
      go_ret
      refine ⟨u3, rfl, ?_, hb⟩
      have e : zeck n = l := by rw [zeck, ← E.out, HZ.out]; show l ++ [] = l; simp
      rw [e]
      exact hown.ints (by rw [ix_length]; omega)
set_option maxHeartbeats 1000000 in
theorem rValue_any (v : Value) (l : List Nat) (hl : ∀ k ∈ l, 2 ≤ k ∧ k ≤ 60) (hs : vsum F l ≤ 4000000000000) (w : World) (hv : Ints w v (ix l)) :
    Calls Try.prog 48 #[v] w fun e w' => e = .returned (.int .i64 (vs 0 l)) ∧ w = w' := by
  obtain ⟨hlen, A, c, rfl, hc, hr⟩ := hv
  have hb0 := vs_zero l
  have hb : vs 0 l ≤ 4000000000000 := by omega
  clear hb0
  have HR := Lib.hid hr; clear hr
  have HL := Lib.hid hl; clear hl
  rw [ix_length] at *
  go_enter Try.func48, Try.ntmps48
  go_wp2
  go_loop [3, 8] (fun s i => ∃ k : Nat, k ≤ l.length ∧ i = .int .i64 k ∧ s = .int .i64 (vs 0 (l.take k))) (fun _ i => l.length - (intOf i).toNat)
  case atStart => exact ⟨0, Nat.zero_le _, rfl, rfl⟩
  case round =>
    obtain ⟨k, hk, rfl, rfl⟩ := hrel
    by_cases hlt : k < l.length
    · obtain ⟨ad, rfl, hbl, hcell⟩ := HR.out (by omega)
      have hx : l[k]? = some l[k] := List.getElem?_eq_getElem hlt
      have hck := hcell k l[k] (by simp [ix, hx])
      have hlk := HL.out l[k] (List.getElem_mem hlt)
      have ht := vs_take 0 l k hlt
      have e0 : ((l[k] : Int) + 0).toNat = l[k] := by omega
      rw [e0] at ht
      have hle := vs_take_le 0 l (k + 1)
      rw [ht] at hle
      have HT := Lib.hid ht; clear ht
      clear hcell hx HR e0
      go_wp2_with (go_at_call 56; refine (rF_nat _ (by omega) _).mono ?_; rintro e w1 ⟨rfl, rfl⟩)
      go_round
      case rel => exact ⟨k + 1, by omega, by go_num, by rw [HT.out]; go_num⟩
      case measure => simp [intOf]; omega
    · go_wp2
      go_ret
      exact ⟨ret_int (by rw [List.take_of_length_le (by omega)]), rfl⟩
set_option maxHeartbeats 1000000 in
theorem rTold_yes (v : Value) (l : List Nat) (h : Falls 60 l) (hs : vsum F l ≤ 1000000000000) (w : World) (hv : Ints w v (ix l)) :
    Calls Try.prog 26 #[v] w fun e w' => e = .returned (.tuple #[.int .i64 (vsum F l), .int .i64 0]) ∧ w = w' := by
  have HV := Lib.hid hv
  have HM := Lib.hid (falls_mem h)
  have e0 := vs_zero l
  clear h hv
  rw [← e0]
  have hs' : vs 0 l ≤ 1000000000000 := by omega
  have hs2 : vsum F l ≤ 4000000000000 := by omega
  clear e0 hs
  go_enter Try.func26, Try.ntmps26
  go_wp2_with (first
    | (go_at_call 48; refine (rValue_any v l HM.out hs2 _ HV.out).mono ?_; rintro e w2 ⟨rfl, rfl⟩)
    | (go_at_call 57; refine (rsized_yes _ (by omega) _).mono ?_; rintro e w2 ⟨rfl, rfl⟩))
  go_ret2
  exact ⟨rfl, rfl⟩
set_option maxHeartbeats 1000000 in
theorem rTold_big (v : Value) (l : List Nat) (h : Falls 60 l) (hs : 1000000000000 < vsum F l) (w : World) (hv : Ints w v (ix l)) :
    Calls Try.prog 26 #[v] w fun e w' => e = .returned (.tuple #[.int .i64 0, .int .i64 6]) ∧ w = w' := by
  have HV := Lib.hid hv
  have HM := Lib.hid (falls_mem h)
  have hle := falls_vsum h
  have e0 := vs_zero l
  clear h hv
  have hs' : 1000000000000 < vs 0 l := by omega
  have hs2 : vsum F l ≤ 4000000000000 := by omega
  clear e0 hs hle
  go_enter Try.func26, Try.ntmps26
  go_wp2_with (first
    | (go_at_call 48; refine (rValue_any v l HM.out hs2 _ HV.out).mono ?_; rintro e w2 ⟨rfl, rfl⟩)
    | (go_at_call 57; refine (rsized_no _ (by omega) _).mono ?_; rintro e w2 ⟨rfl, rfl⟩))
  go_ret2
  exact ⟨rfl, rfl⟩

end Go.Proofs.Ytiknocjdogbajaa
