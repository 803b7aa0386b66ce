/- Walks: slices.Compare, Less, Add of numeral and of the reference. -/
import Derived.Test.YtiknocjdogbajaaCodes
import Derived.Test.YtiknocjdogbajaaD
namespace Go.Proofs.Ytiknocjdogbajaa
open Go.RowKit

/-- two steps -/
theorem bt {w w1 w2 : World} (h : Below w.heap.size w w1) (h2 : Below w1.heap.size w1 w2) : Below w.heap.size w w2 := h.trans (h2.mono h.size)
/-- Go's slices.Compare -/
def lexc : List Int → List Int → Int
  | [], [] => 0
  | [], _ :: _ => -1
  | _ :: _, [] => 1
  | x :: xs, y :: ys => if x < y then -1 else if y < x then 1 else lexc xs ys
theorem lexc_cons_eq (x : Int) (xs ys : List Int) : lexc (x :: xs) (x :: ys) = lexc xs ys := by simp [lexc]
theorem lexc_lt (x y : Int) (xs ys : List Int) (h : x < y) : lexc (x :: xs) (y :: ys) = -1 := by simp [lexc, h]
theorem lexc_gt (x y : Int) (xs ys : List Int) (h : y < x) : lexc (x :: xs) (y :: ys) = 1 := by
  have : ¬ x < y := by omega
  simp [lexc, h, this]
def lexd (xs ys : List Int) (k : Nat) : Int := lexc (xs.drop k) (ys.drop k)

theorem isNaN_no (x : Int) (w : World) : Calls Try.prog 71 #[.int .i64 x] w fun e w' => e = .returned (.bool false) ∧ w = w' := by
  go_enter Try.func71, Try.ntmps71
  go_wp2
  go_ret
  exact ⟨rfl, rfl⟩
set_option maxHeartbeats 1000000 in
theorem cmp_lt (x y : Int) (h : x < y) (w : World) : Calls Try.prog 66 #[.int .i64 x, .int .i64 y] w fun e w' => e = .returned (.int .i64 (-1)) ∧ w = w' := by
  go_enter Try.func66, Try.ntmps66
  go_wp2_with (go_at_call 71; refine (isNaN_no _ _).mono ?_; rintro e _ ⟨rfl, rfl⟩)
  go_ret
  exact ⟨rfl, rfl⟩
set_option maxHeartbeats 1000000 in
theorem cmp_gt (x y : Int) (h : y < x) (w : World) : Calls Try.prog 66 #[.int .i64 x, .int .i64 y] w fun e w' => e = .returned (.int .i64 1) ∧ w = w' := by
  go_enter Try.func66, Try.ntmps66
  go_wp2_with (go_at_call 71; refine (isNaN_no _ _).mono ?_; rintro e _ ⟨rfl, rfl⟩)
  go_ret
  exact ⟨rfl, rfl⟩
set_option maxHeartbeats 1000000 in
theorem cmp_eq (x : Int) (w : World) : Calls Try.prog 66 #[.int .i64 x, .int .i64 x] w fun e w' => e = .returned (.int .i64 0) ∧ w = w' := by
  go_enter Try.func66, Try.ntmps66
  go_wp2_with (go_at_call 71; refine (isNaN_no _ _).mono ?_; rintro e _ ⟨rfl, rfl⟩)
  go_ret
  exact ⟨rfl, rfl⟩
theorem cell_of {w : World} {ad : Addr} {xs : List Int} (hcell : ∀ j u, xs[j]? = some u → w.cell? (ad.add j) = some (.int .i64 u)) {k : Nat} (h : k < xs.length) : w.cell? (ad.add k) = some (.int .i64 xs[k]) :=
  hcell k xs[k] (List.getElem?_eq_getElem h)
set_option maxHeartbeats 4000000 in
theorem compare_any (v1 v2 : Value) (xs ys : List Int) (w : World) (h1 : Ints w v1 xs) (h2 : Ints w v2 ys) :
    Calls Try.prog 49 #[v1, v2] w fun e w' => e = .returned (.int .i64 (lexc xs ys)) ∧ w = w' := by
  obtain ⟨hlen, A, c, rfl, hc, hr⟩ := h1
  obtain ⟨hlen', A', c', rfl, hc', hr'⟩ := h2
  have HR := Lib.hid hr; clear hr
  have HR' := Lib.hid hr'; clear hr'
  go_enter Try.func49, Try.ntmps49
  go_wp2
  go_loop [5, 6, 7, 8, 11] (fun _ _ _ _ i => ∃ k : Nat, k ≤ xs.length ∧ k ≤ ys.length ∧ i = .int .i64 k ∧ lexc xs ys = lexd xs ys k) (fun _ _ _ _ i => xs.length - (intOf i).toNat)
  case atStart => exact ⟨0, Nat.zero_le _, Nat.zero_le _, rfl, rfl⟩
  case round =>
    obtain ⟨k, hk, hk', rfl, hlex⟩ := hrel
    have HL := Lib.hid hlex; clear hlex
    by_cases hlt : k < xs.length
    · obtain ⟨ad, rfl, hbl, hcell⟩ := HR.out (by omega)
      have hck := cell_of hcell hlt
      have hdx : xs.drop k = xs[k] :: xs.drop (k + 1) := List.drop_eq_getElem_cons hlt
      clear hcell
      by_cases hlt' : k < ys.length
      · obtain ⟨ad', rfl, hbl', hcell'⟩ := HR'.out (by omega)
        have hck' := cell_of hcell' hlt'
        have hdy : ys.drop k = ys[k] :: ys.drop (k + 1) := List.drop_eq_getElem_cons hlt'
        clear hcell'
        by_cases c1 : xs[k] < ys[k]
        · have hres : lexc xs ys = -1 := by rw [HL.out, lexd, hdx, hdy, lexc_lt _ _ _ _ c1]
          have HRES := Lib.hid hres
          clear hres hdx hdy
          generalize xs[k] = x at *
          generalize ys[k] = y at *
          go_wp2_with (go_at_call 66; refine (cmp_lt _ _ c1 _).mono ?_; rintro e _ ⟨rfl, rfl⟩)
          go_ret
          exact ⟨by rw [HRES.out]; rfl, rfl⟩
        · by_cases c2 : ys[k] < xs[k]
          · have hres : lexc xs ys = 1 := by rw [HL.out, lexd, hdx, hdy, lexc_gt _ _ _ _ c2]
            have HRES := Lib.hid hres
            clear hres hdx hdy
            generalize xs[k] = x at *
            generalize ys[k] = y at *
            go_wp2_with (go_at_call 66; refine (cmp_gt _ _ c2 _).mono ?_; rintro e _ ⟨rfl, rfl⟩)
            go_ret
            exact ⟨by rw [HRES.out]; rfl, rfl⟩
          · have he : ys[k] = xs[k] := by omega
            rw [he] at hck' hdy
            have hres : lexc xs ys = lexd xs ys (k + 1) := by rw [HL.out, lexd, hdx, hdy, lexc_cons_eq]; rfl
            have HRES := Lib.hid hres
            clear hres hdx hdy he c1 c2
            generalize xs[k] = x at *
            go_wp2_with (go_at_call 66; refine (cmp_eq _ _).mono ?_; rintro e _ ⟨rfl, rfl⟩)
            go_round
            case rel => exact ⟨k + 1, by omega, by omega, by go_num, HRES.out⟩
            case measure => simp [intOf]; omega
      · have hdy : ys.drop k = [] := List.drop_of_length_le (by omega)
        have hres : lexc xs ys = 1 := by rw [HL.out, lexd, hdx, hdy]; rfl
        have HRES := Lib.hid hres
        clear hres hdx hdy
        generalize xs[k] = x at *
        go_wp2
        go_ret
        exact ⟨by rw [HRES.out]; rfl, rfl⟩
    · have hdx : xs.drop k = [] := List.drop_of_length_le (by omega)
      by_cases hlt' : k < ys.length
      · have hdy : ys.drop k = ys[k] :: ys.drop (k + 1) := List.drop_eq_getElem_cons hlt'
        have hres : lexc xs ys = -1 := by rw [HL.out, lexd, hdx, hdy]; rfl
        have HRES := Lib.hid hres
        clear hres hdx hdy
        go_wp2
        go_ret
        exact ⟨by rw [HRES.out]; rfl, rfl⟩
      · have hdy : ys.drop k = [] := List.drop_of_length_le (by omega)
        have hres : lexc xs ys = 0 := by rw [HL.out, lexd, hdx, hdy]; rfl
        have HRES := Lib.hid hres
        clear hres hdx hdy
        go_wp2
        go_ret
        exact ⟨by rw [HRES.out]; rfl, rfl⟩

theorem falls_head_lt {K a : Nat} {l : List Nat} (h : Falls K (a :: l)) : vsum F (a :: l) < F (a + 1) := falls_sum_lt a (a :: l) ⟨h.1, Nat.le_refl _, h.2.2⟩
/-- numerals are in order as their values -/
theorem lexc_falls (l m : List Nat) (K : Nat) (hl : Falls K l) (hm : Falls K m) :
    (vsum F l < vsum F m → lexc (ix l) (ix m) = -1) ∧ (vsum F m < vsum F l → lexc (ix l) (ix m) = 1) ∧ (vsum F l = vsum F m → lexc (ix l) (ix m) = 0) := by
  induction l generalizing m K with
  | nil =>
    match m, hm with
    | [], _ => exact ⟨fun h => by omega, fun h => by omega, fun _ => rfl⟩
    | b :: m, hm =>
      have := F_pos b (by have := hm.1; omega)
      have h1 : vsum F (b :: m) = F b + vsum F m := vsum_cons _ _ _
      have h0 : vsum F [] = 0 := rfl
      exact ⟨fun _ => rfl, fun h => by omega, fun h => by omega⟩
  | cons a l ih =>
    match m, hm with
    | [], _ =>
      have := F_pos a (by have := hl.1; omega)
      have h1 : vsum F (a :: l) = F a + vsum F l := vsum_cons _ _ _
      have h0 : vsum F [] = 0 := rfl
      exact ⟨fun h => by omega, fun _ => rfl, fun h => by omega⟩
    | b :: m, hm =>
      have ea : ix (a :: l) = (a : Int) :: ix l := rfl
      have eb : ix (b :: m) = (b : Int) :: ix m := rfl
      rw [ea, eb]
      have la := falls_head_lt hl
      have lb := falls_head_lt hm
      have h1 : vsum F (a :: l) = F a + vsum F l := vsum_cons _ _ _
      have h2 : vsum F (b :: m) = F b + vsum F m := vsum_cons _ _ _
      rcases Nat.lt_trichotomy a b with h | h | h
      · have := F_mono (show a + 1 ≤ b by omega)
        exact ⟨fun _ => lexc_lt _ _ _ _ (by omega), fun h => by omega, fun h => by omega⟩
      · subst h
        rw [lexc_cons_eq]
        have := ih m (a - 2) hl.2.2 hm.2.2
        exact ⟨fun h => this.1 (by omega), fun h => this.2.1 (by omega), fun h => this.2.2 (by omega)⟩
      · have := F_mono (show b + 1 ≤ a by omega)
        exact ⟨fun h => by omega, fun _ => lexc_gt _ _ _ _ (by omega), fun h => by omega⟩
theorem lexc_lt_iff {l m : List Nat} (hl : Falls 60 l) (hm : Falls 60 m) : (lexc (ix l) (ix m) < 0) ↔ vsum F l < vsum F m := by
  have h := lexc_falls l m 60 hl hm
  rcases Nat.lt_trichotomy (vsum F l) (vsum F m) with c | c | c
  · rw [h.1 c]; omega
  · rw [h.2.2 c]; omega
  · rw [h.2.1 c]; omega
/-- the result of Compare is less than 0 -/
theorem compare_lt (v1 v2 : Value) (l m : List Nat) (hl : Falls 60 l) (hm : Falls 60 m) (h : vsum F l < vsum F m) (w : World) (h1 : Ints w v1 (ix l)) (h2 : Ints w v2 (ix m)) :
    Calls Try.prog 49 #[v1, v2] w fun e w' => e = .returned (.int .i64 (-1)) ∧ w = w' := by
  have := compare_any v1 v2 _ _ w h1 h2
  rw [(lexc_falls l m 60 hl hm).1 h] at this
  exact this
/-- the result of Compare is not less than 0 -/
def NotLess (e : Ending) : Prop := ∃ c : Int, e = .returned (.int .i64 c) ∧ (c = 0 ∨ c = 1)
theorem compare_ge (v1 v2 : Value) (l m : List Nat) (hl : Falls 60 l) (hm : Falls 60 m) (h : ¬ vsum F l < vsum F m) (w : World) (h1 : Ints w v1 (ix l)) (h2 : Ints w v2 (ix m)) :
    Calls Try.prog 49 #[v1, v2] w fun e w' => NotLess e ∧ w = w' := by
  refine (compare_any v1 v2 _ _ w h1 h2).mono fun e w' ⟨he, hw⟩ => ⟨⟨_, he, ?_⟩, hw⟩
  have hh := lexc_falls l m 60 hl hm
  rcases Nat.lt_trichotomy (vsum F l) (vsum F m) with c | c | c
  · omega
  · exact .inl (hh.2.2 c)
  · exact .inr (hh.2.1 c)

set_option maxHeartbeats 2000000 in
theorem Less_true (v1 v2 : Value) (l m : List Nat) (hl : Falls 60 l) (hm : Falls 60 m) (h : vsum F l < vsum F m)  (w : World) (h1 : Ints w v1 (ix l)) (h2 : Ints w v2 (ix m)) :
    Calls Try.prog 46 #[v1, v2] w fun e w' => e = .returned (.tuple #[.bool true, .int .i64 0]) ∧ w = w' := by
  have HL := Lib.hid hl; clear hl
  have HM := Lib.hid hm; clear hm
  have H1 := Lib.hid h1; clear h1
  have H2 := Lib.hid h2; clear h2
  have H := Lib.hid h; clear h
  go_enter Try.func46, Try.ntmps46
  go_wp2_with fail
  first | (with_reducible refine (valid_yes v1 l HL.out _ H1.out).mono ?_) | refine (valid_yes v1 l HL.out _ H1.out).mono ?_
  rintro e _ ⟨rfl, rfl⟩
  go_wp2_with fail
  first | (with_reducible refine (valid_yes v2 m HM.out _ H2.out).mono ?_) | refine (valid_yes v2 m HM.out _ H2.out).mono ?_
  rintro e _ ⟨rfl, rfl⟩
  go_wp2_with fail
  first | (with_reducible refine (compare_lt v1 v2 l m HL.out HM.out H.out _ H1.out H2.out).mono ?_) | refine (compare_lt v1 v2 l m HL.out HM.out H.out _ H1.out H2.out).mono ?_
  rintro e _ ⟨rfl, rfl⟩
  go_wp2
  go_ret2
  exact ⟨rfl, rfl⟩

set_option maxHeartbeats 2000000 in
theorem Less_false (v1 v2 : Value) (l m : List Nat) (hl : Falls 60 l) (hm : Falls 60 m) (h : ¬ vsum F l < vsum F m) (w : World) (h1 : Ints w v1 (ix l)) (h2 : Ints w v2 (ix m)) :
    Calls Try.prog 46 #[v1, v2] w fun e w' => e = .returned (.tuple #[.bool false, .int .i64 0]) ∧ w = w' := by
  have HL := Lib.hid hl; clear hl
  have HM := Lib.hid hm; clear hm
  have H1 := Lib.hid h1; clear h1
  have H2 := Lib.hid h2; clear h2
  have H := Lib.hid h; clear h
  go_enter Try.func46, Try.ntmps46
  go_wp2_with fail
  refine (valid_yes v1 l HL.out _ H1.out).mono ?_
  rintro e _ ⟨rfl, rfl⟩
  go_wp2_with fail
  refine (valid_yes v2 m HM.out _ H2.out).mono ?_
  rintro e _ ⟨rfl, rfl⟩
  go_wp2_with fail
  refine (compare_ge v1 v2 l m HL.out HM.out H.out _ H1.out H2.out).mono ?_
  rintro e _ ⟨⟨c, rfl, hc⟩, rfl⟩
  have hc0 : decide (c < 0) = false := decide_eq_false (by omega)
  clear hc
  go_wp2
  go_ret2
  exact ⟨rfl, rfl⟩

set_option maxHeartbeats 2000000 in
theorem Less_no1 (v1 v2 : Value) (xs : List Int) (hx : ¬ IsNum xs) (hbd : ∀ n ∈ xs, -9223372036854775808 ≤ n ∧ n ≤ 9223372036854775807)  (w : World) (h1 : Ints w v1 xs) :
    Calls Try.prog 46 #[v1, v2] w fun e w' => e = .returned (.tuple #[.bool false, .int .i64 2]) ∧ w = w' := by
  have HX := Lib.hid hx; clear hx
  have HB := Lib.hid hbd; clear hbd
  have H1 := Lib.hid h1; clear h1
  go_enter Try.func46, Try.ntmps46
  go_wp2_with fail
  first | (with_reducible refine (valid_no v1 xs HX.out HB.out _ H1.out).mono ?_) | refine (valid_no v1 xs HX.out HB.out _ H1.out).mono ?_
  rintro e _ ⟨rfl, rfl⟩
  go_wp2
  go_ret2
  exact ⟨rfl, rfl⟩

set_option maxHeartbeats 2000000 in
theorem Less_no2 (v1 v2 : Value) (l : List Nat) (hl : Falls 60 l) (xs : List Int) (hx : ¬ IsNum xs) (hbd : ∀ n ∈ xs, -9223372036854775808 ≤ n ∧ n ≤ 9223372036854775807)  (w : World) (h1 : Ints w v1 (ix l)) (h2 : Ints w v2 xs) :
    Calls Try.prog 46 #[v1, v2] w fun e w' => e = .returned (.tuple #[.bool false, .int .i64 2]) ∧ w = w' := by
  have HL := Lib.hid hl; clear hl
  have H2 := Lib.hid h2; clear h2
  have HX := Lib.hid hx; clear hx
  have HB := Lib.hid hbd; clear hbd
  have H1 := Lib.hid h1; clear h1
  go_enter Try.func46, Try.ntmps46
  go_wp2_with fail
  first | (with_reducible refine (valid_yes v1 l HL.out _ H1.out).mono ?_) | refine (valid_yes v1 l HL.out _ H1.out).mono ?_
  rintro e _ ⟨rfl, rfl⟩
  go_wp2_with fail
  first | (with_reducible refine (valid_no v2 xs HX.out HB.out _ H2.out).mono ?_) | refine (valid_no v2 xs HX.out HB.out _ H2.out).mono ?_
  rintro e _ ⟨rfl, rfl⟩
  go_wp2
  go_ret2
  exact ⟨rfl, rfl⟩

set_option maxHeartbeats 2000000 in
theorem Add_no1 (v1 v2 : Value) (xs : List Int) (hx : ¬ IsNum xs) (hbd : ∀ n ∈ xs, -9223372036854775808 ≤ n ∧ n ≤ 9223372036854775807)  (w : World) (h1 : Ints w v1 xs) :
    Calls Try.prog 45 #[v1, v2] w fun e w' => e = .returned (.tuple #[.slice none 0 0, .int .i64 2]) ∧ w = w' := by
  have HX := Lib.hid hx; clear hx
  have HB := Lib.hid hbd; clear hbd
  have H1 := Lib.hid h1; clear h1
  go_enter Try.func45, Try.ntmps45
  go_wp2_with fail
  first | (with_reducible refine (valid_no v1 xs HX.out HB.out _ H1.out).mono ?_) | refine (valid_no v1 xs HX.out HB.out _ H1.out).mono ?_
  rintro e _ ⟨rfl, rfl⟩
  go_wp2
  go_ret2
  exact ⟨rfl, rfl⟩

set_option maxHeartbeats 2000000 in
theorem Add_no2 (v1 v2 : Value) (l : List Nat) (hl : Falls 60 l) (xs : List Int) (hx : ¬ IsNum xs) (hbd : ∀ n ∈ xs, -9223372036854775808 ≤ n ∧ n ≤ 9223372036854775807)  (w : World) (h1 : Ints w v1 (ix l)) (h2 : Ints w v2 xs) :
    Calls Try.prog 45 #[v1, v2] w fun e w' => e = .returned (.tuple #[.slice none 0 0, .int .i64 2]) ∧ w = w' := by
  have HL := Lib.hid hl; clear hl
  have H2 := Lib.hid h2; clear h2
  have HX := Lib.hid hx; clear hx
  have HB := Lib.hid hbd; clear hbd
  have H1 := Lib.hid h1; clear h1
  go_enter Try.func45, Try.ntmps45
  go_wp2_with fail
  first | (with_reducible refine (valid_yes v1 l HL.out _ H1.out).mono ?_) | refine (valid_yes v1 l HL.out _ H1.out).mono ?_
  rintro e _ ⟨rfl, rfl⟩
  go_wp2_with fail
  first | (with_reducible refine (valid_no v2 xs HX.out HB.out _ H2.out).mono ?_) | refine (valid_no v2 xs HX.out HB.out _ H2.out).mono ?_
  rintro e _ ⟨rfl, rfl⟩
  go_wp2
  go_ret2
  exact ⟨rfl, rfl⟩

theorem encode_sum (x y : Nat) (h : x + y ≤ 1000000000000) (w : World) :
    Calls Try.prog 52 #[.int .i64 ((x : Int) + y)] w fun e w' => ∃ v, e = .returned v ∧ Ints w' v (ix (zeck (x + y))) ∧ Below w.heap.size w w' := by
  have := encode_z (x + y) h w
  rw [show ((x + y : Nat) : Int) = (x : Int) + y by omega] at this
  exact this
theorem rEncode_sum (x y : Nat) (h : x + y ≤ 1000000000000) (w : World) :
    Calls Try.prog 24 #[.int .i64 ((x : Int) + y)] w fun e w' => ∃ v, e = .returned v ∧ Ints w' v (ix (zeck (x + y))) ∧ Below w.heap.size w w' := by
  have := rEncode_nat (x + y) h w
  rw [show ((x + y : Nat) : Int) = (x : Int) + y by omega] at this
  exact this

set_option maxHeartbeats 2000000 in
theorem Add_yes (v1 v2 : Value) (l m : List Nat) (hl : Falls 60 l) (hm : Falls 60 m) (h : vsum F l + vsum F m ≤ 1000000000000)  (w : World) (h1 : Ints w v1 (ix l)) (h2 : Ints w v2 (ix m)) :
    Calls Try.prog 45 #[v1, v2] w fun e w' => ∃ v, e = .returned (.tuple #[v, .int .i64 0]) ∧ Ints w' v (ix (zeck (vs 0 l + vs 0 m))) ∧ Below w.heap.size w w' := by
  have hl0 := vs_zero l
  have hm0 := vs_zero m
  have HML := Lib.hid (falls_mem hl)
  have HMM := Lib.hid (falls_mem hm)
  have bl := falls_vsum hl
  have bm := falls_vsum hm
  have hl1 : vs 0 l ≤ 2504730781960 := by omega
  have hm1 : vs 0 m ≤ 2504730781960 := by omega
  have HL := Lib.hid hl; clear hl
  have HM := Lib.hid hm; clear hm
  have H1 := Lib.hid h1; clear h1
  have H2 := Lib.hid h2; clear h2
  have hsum : vs 0 l + vs 0 m ≤ 1000000000000 := by omega
  clear hl0 hm0 h
  go_enter Try.func45, Try.ntmps45
  go_wp2_with fail
  first | (with_reducible refine (valid_yes v1 l HL.out _ H1.out).mono ?_) | refine (valid_yes v1 l HL.out _ H1.out).mono ?_
  rintro e _ ⟨rfl, rfl⟩
  go_wp2_with fail
  first | (with_reducible refine (valid_yes v2 m HM.out _ H2.out).mono ?_) | refine (valid_yes v2 m HM.out _ H2.out).mono ?_
  rintro e _ ⟨rfl, rfl⟩
  go_wp2_with fail
  first | (with_reducible refine (value_any v1 l 0 (by omega) (by omega) HML.out (by omega) _ H1.out).mono ?_) | refine (value_any v1 l 0 (by omega) (by omega) HML.out (by omega) _ H1.out).mono ?_
  rintro e _ ⟨rfl, rfl⟩
  go_wp2_with fail
  first | (with_reducible refine (value_any v2 m 0 (by omega) (by omega) HMM.out (by omega) _ H2.out).mono ?_) | refine (value_any v2 m 0 (by omega) (by omega) HMM.out (by omega) _ H2.out).mono ?_
  rintro e _ ⟨rfl, rfl⟩
  go_wp2_with fail
  first | (with_reducible refine (sized_yes ((vs 0 l : Int) + vs 0 m) (by omega) _).mono ?_) | refine (sized_yes ((vs 0 l : Int) + vs 0 m) (by omega) _).mono ?_
  rintro e _ ⟨rfl, rfl⟩
  go_wp2_with fail
  first | (with_reducible refine (encode_sum (vs 0 l) (vs 0 m) hsum _).mono ?_) | refine (encode_sum (vs 0 l) (vs 0 m) hsum _).mono ?_
  rintro e w1 ⟨v, rfl, hv, hb1⟩
  go_wp2
  go_ret2
  exact ⟨v, rfl, hv, hb1⟩

set_option maxHeartbeats 2000000 in
theorem Add_big (v1 v2 : Value) (l m : List Nat) (hl : Falls 60 l) (hm : Falls 60 m) (h : 1000000000000 < vsum F l + vsum F m)  (w : World) (h1 : Ints w v1 (ix l)) (h2 : Ints w v2 (ix m)) :
    Calls Try.prog 45 #[v1, v2] w fun e w' => e = .returned (.tuple #[.slice none 0 0, .int .i64 6]) ∧ w = w' := by
  have hl0 := vs_zero l
  have hm0 := vs_zero m
  have HML := Lib.hid (falls_mem hl)
  have HMM := Lib.hid (falls_mem hm)
  have bl := falls_vsum hl
  have bm := falls_vsum hm
  have hl1 : vs 0 l ≤ 2504730781960 := by omega
  have hm1 : vs 0 m ≤ 2504730781960 := by omega
  have HL := Lib.hid hl; clear hl
  have HM := Lib.hid hm; clear hm
  have H1 := Lib.hid h1; clear h1
  have H2 := Lib.hid h2; clear h2
  have hsum : 1000000000000 < vs 0 l + vs 0 m := by omega
  clear hl0 hm0 h
  go_enter Try.func45, Try.ntmps45
  go_wp2_with fail
  first | (with_reducible refine (valid_yes v1 l HL.out _ H1.out).mono ?_) | refine (valid_yes v1 l HL.out _ H1.out).mono ?_
  rintro e _ ⟨rfl, rfl⟩
  go_wp2_with fail
  first | (with_reducible refine (valid_yes v2 m HM.out _ H2.out).mono ?_) | refine (valid_yes v2 m HM.out _ H2.out).mono ?_
  rintro e _ ⟨rfl, rfl⟩
  go_wp2_with fail
  first | (with_reducible refine (value_any v1 l 0 (by omega) (by omega) HML.out (by omega) _ H1.out).mono ?_) | refine (value_any v1 l 0 (by omega) (by omega) HML.out (by omega) _ H1.out).mono ?_
  rintro e _ ⟨rfl, rfl⟩
  go_wp2_with fail
  first | (with_reducible refine (value_any v2 m 0 (by omega) (by omega) HMM.out (by omega) _ H2.out).mono ?_) | refine (value_any v2 m 0 (by omega) (by omega) HMM.out (by omega) _ H2.out).mono ?_
  rintro e _ ⟨rfl, rfl⟩
  go_wp2_with fail
  first | (with_reducible refine (sized_no ((vs 0 l : Int) + vs 0 m) (by omega) _).mono ?_) | refine (sized_no ((vs 0 l : Int) + vs 0 m) (by omega) _).mono ?_
  rintro e _ ⟨rfl, rfl⟩
  go_wp2
  go_ret2
  exact ⟨rfl, rfl⟩

set_option maxHeartbeats 2000000 in
theorem rAdd_yes (v1 v2 : Value) (l m : List Nat) (hl : Falls 60 l) (hm : Falls 60 m) (h : vsum F l + vsum F m ≤ 1000000000000)  (w : World) (h1 : Ints w v1 (ix l)) (h2 : Ints w v2 (ix m)) :
    Calls Try.prog 47 #[v1, v2] w fun e w' => ∃ v, e = .returned (.tuple #[v, .int .i64 0]) ∧ Ints w' v (ix (zeck (vs 0 l + vs 0 m))) ∧ Below w.heap.size w w' := by
  have hl0 := vs_zero l
  have hm0 := vs_zero m
  have HML := Lib.hid (falls_mem hl)
  have HMM := Lib.hid (falls_mem hm)
  have bl := falls_vsum hl
  have bm := falls_vsum hm
  have hl1 : vs 0 l ≤ 2504730781960 := by omega
  have hm1 : vs 0 m ≤ 2504730781960 := by omega
  have HL := Lib.hid hl; clear hl
  have HM := Lib.hid hm; clear hm
  have H1 := Lib.hid h1; clear h1
  have H2 := Lib.hid h2; clear h2
  have hsum : vs 0 l + vs 0 m ≤ 1000000000000 := by omega
  clear hl0 hm0 h
  go_enter Try.func47, Try.ntmps47
  go_wp2_with fail
  first | (with_reducible refine (rValue_any v1 l HML.out (by omega) _ H1.out).mono ?_) | refine (rValue_any v1 l HML.out (by omega) _ H1.out).mono ?_
  rintro e _ ⟨rfl, rfl⟩
  go_wp2_with fail
  first | (with_reducible refine (rValue_any v2 m HMM.out (by omega) _ H2.out).mono ?_) | refine (rValue_any v2 m HMM.out (by omega) _ H2.out).mono ?_
  rintro e _ ⟨rfl, rfl⟩
  go_wp2_with fail
  first | (with_reducible refine (rsized_yes ((vs 0 l : Int) + vs 0 m) (by omega) _).mono ?_) | refine (rsized_yes ((vs 0 l : Int) + vs 0 m) (by omega) _).mono ?_
  rintro e _ ⟨rfl, rfl⟩
  go_wp2_with fail
  first | (with_reducible refine (rEncode_sum (vs 0 l) (vs 0 m) hsum _).mono ?_) | refine (rEncode_sum (vs 0 l) (vs 0 m) hsum _).mono ?_
  rintro e w1 ⟨v, rfl, hv, hb1⟩
  go_wp2
  go_ret2
  exact ⟨v, rfl, hv, hb1⟩

set_option maxHeartbeats 2000000 in
theorem rAdd_big (v1 v2 : Value) (l m : List Nat) (hl : Falls 60 l) (hm : Falls 60 m) (h : 1000000000000 < vsum F l + vsum F m)  (w : World) (h1 : Ints w v1 (ix l)) (h2 : Ints w v2 (ix m)) :
    Calls Try.prog 47 #[v1, v2] w fun e w' => e = .returned (.tuple #[.slice none 0 0, .int .i64 6]) ∧ w = w' := by
  have hl0 := vs_zero l
  have hm0 := vs_zero m
  have HML := Lib.hid (falls_mem hl)
  have HMM := Lib.hid (falls_mem hm)
  have bl := falls_vsum hl
  have bm := falls_vsum hm
  have hl1 : vs 0 l ≤ 2504730781960 := by omega
  have hm1 : vs 0 m ≤ 2504730781960 := by omega
  have HL := Lib.hid hl; clear hl
  have HM := Lib.hid hm; clear hm
  have H1 := Lib.hid h1; clear h1
  have H2 := Lib.hid h2; clear h2
  have hsum : 1000000000000 < vs 0 l + vs 0 m := by omega
  clear hl0 hm0 h
  go_enter Try.func47, Try.ntmps47
  go_wp2_with fail
  first | (with_reducible refine (rValue_any v1 l HML.out (by omega) _ H1.out).mono ?_) | refine (rValue_any v1 l HML.out (by omega) _ H1.out).mono ?_
  rintro e _ ⟨rfl, rfl⟩
  go_wp2_with fail
  first | (with_reducible refine (rValue_any v2 m HMM.out (by omega) _ H2.out).mono ?_) | refine (rValue_any v2 m HMM.out (by omega) _ H2.out).mono ?_
  rintro e _ ⟨rfl, rfl⟩
  go_wp2_with fail
  first | (with_reducible refine (rsized_no ((vs 0 l : Int) + vs 0 m) (by omega) _).mono ?_) | refine (rsized_no ((vs 0 l : Int) + vs 0 m) (by omega) _).mono ?_
  rintro e _ ⟨rfl, rfl⟩
  go_wp2
  go_ret2
  exact ⟨rfl, rfl⟩

end Go.Proofs.Ytiknocjdogbajaa
