/- The walk of NumeralGame. -/
import Derived.Test.YtiknocjdogbajaaCold
namespace Go.Proofs.Ytiknocjdogbajaa
open Go.RowKit

/-- from a pair that is not cold Move leads to a cold one, by a move that is allowed -/
theorem move_game (a b : Nat) (ha : a ≤ 1000000) (hb : b ≤ 1000000) (hc : ¬ Cold a b) : ∃ x y : Nat, x ≤ a ∧ y ≤ b ∧ Cold x y ∧ 0 < (a - x) + (b - y) ∧ (x = a ∨ y = b ∨ a - x = b - y) ∧
    (∀ w, Calls Try.prog 32 #[.int .i64 a, .int .i64 b] w fun e w' => e = .returned (.tuple #[.agg #[.int .i64 x, .int .i64 y], .int .i64 0]) ∧ Below w.heap.size w w') := by
  obtain ⟨n, ho⟩ := bst_opt a b ha hb hc
  have hn1 := ho.pos
  obtain ⟨k, hk, e, g⟩ := ho.good
  have s := mvs_sum a b n k hk
  have hx : (Mvs a b n k).x ≤ a ∧ (Mvs a b n k).y ≤ b ∧ ((Mvs a b n k).x = a ∨ (Mvs a b n k).y = b ∨ (a : Int) - (Mvs a b n k).x = b - (Mvs a b n k).y) := by
    match k with
    | 0 => simp only [Mvs]; exact ⟨by omega, by omega, .inr (.inl trivial)⟩
    | 1 => simp only [Mvs]; exact ⟨by omega, by omega, .inl trivial⟩
    | k + 2 => simp only [Mvs]; exact ⟨by omega, by omega, .inr (.inr (by omega))⟩
  rw [e] at s hx
  simp only at s hx
  obtain ⟨g0, g1, g2⟩ := g
  generalize hB : bst a b (cands a b (diag a b).x (diag a b).y) 3 = B at *
  obtain ⟨x, hx0⟩ := Int.eq_ofNat_of_zero_le g0
  obtain ⟨y, hy0⟩ := Int.eq_ofNat_of_zero_le g1
  rw [hx0, hy0] at g2 s hx
  refine ⟨x, y, by omega, by omega, by simpa using g2, by omega, by omega, fun w => ?_⟩
  rcases Nat.lt_or_ge b a with hab | hab
  · refine (Move_gt a b ha hb hc hab w).mono ?_
    rintro e w' ⟨h, hb'⟩
    have hd : diag a b = ⟨(pa (df a b) : Int) + (df a b : Nat), pa (df a b)⟩ := by unfold diag; rw [if_neg (by omega)]
    rw [hd] at hB
    have := h _ hB.symm
    rw [hx0, hy0] at this
    exact ⟨this, hb'⟩
  · refine (Move_le a b ha hb hc hab w).mono ?_
    rintro e w' ⟨h, hb'⟩
    have hd : diag a b = ⟨pa (df a b), (pa (df a b) : Int) + (df a b : Nat)⟩ := by unfold diag; rw [if_pos hab]
    rw [hd] at hB
    have := h _ hB.symm
    rw [hx0, hy0] at this
    exact ⟨this, hb'⟩

/-- from a cold pair no move leads to a cold one -/
theorem cold_left (a b n : Nat) (ha : a ≤ 1000000) (hb : b ≤ 1000000) (hc : Cold a b) (h1 : 1 ≤ n) (hn : n ≤ a) : ¬ Cold (a - n) b := by
  intro h
  have e1 := (cold_part b a (by omega) (by omega)).1 (cold_symm.1 hc)
  have e2 := (cold_part b (a - n) (by omega) (by omega)).1 (cold_symm.1 h)
  omega
theorem cold_right (a b n : Nat) (ha : a ≤ 1000000) (hb : b ≤ 1000000) (hc : Cold a b) (h1 : 1 ≤ n) (hn : n ≤ b) : ¬ Cold a (b - n) := by
  intro h
  have e1 := (cold_part a b (by omega) (by omega)).1 hc
  have e2 := (cold_part a (b - n) (by omega) (by omega)).1 h
  omega
theorem cold_diag (a b n : Nat) (hc : Cold a b) (h1 : 1 ≤ n) (hna : n ≤ a) (hnb : n ≤ b) : ¬ Cold (a - n) (b - n) := by
  intro h
  unfold Cold at hc h
  have e : max (a - n) (b - n) - min (a - n) (b - n) = max a b - min a b := by omega
  rw [e] at h
  omega

set_option maxRecDepth 100000 in
set_option maxHeartbeats 4000000 in
theorem numeralGame_bad (a b n : Int) (hab : a < 0 ∨ b < 0 ∨ 1000000 < a ∨ 1000000 < b) (w : World) :
    Calls Try.prog 9 #[.int .i64 a, .int .i64 b, .int .i64 n] w fun e w' => e = .returned (.bool true) ∧ Below w.heap.size w w' := by
  have HM := Lib.hid (fun V => Move_bad a b hab V)
  have HC := Lib.hid (fun V => Cold_no a b hab V)
  clear hab
  go_enter Try.func9, Try.ntmps9
  go_wp2_with fail
  refine (HC.out _).mono ?_
  rintro e w1 ⟨rfl, hb1⟩
  go_wp2_with fail
  refine (HM.out _).mono ?_
  rintro e w2 ⟨rfl, hb2⟩
  have t2 := hb1.trans (hb2.mono hb1.size)
  clear hb1 hb2
  go_wp2_with fail
  (with_reducible refine (awake_any _).mono ?_)
  rintro e w3 ⟨rfl, hb3⟩
  go_wp2_with fail
  go_ret
  exact ⟨rfl, t2.trans ((below_new hb3).mono t2.size)⟩

set_option maxRecDepth 100000 in
set_option maxHeartbeats 4000000 in
theorem numeralGame_free (a b : Nat) (n : Int) (ha : a ≤ 1000000) (hb : b ≤ 1000000) (hc : ¬ Cold a b) (w : World) :
    Calls Try.prog 9 #[.int .i64 a, .int .i64 b, .int .i64 n] w fun e w' => e = .returned (.bool true) ∧ Below w.heap.size w w' := by
  obtain ⟨x, y, hx, hy, hxy, hpos, hway, hM⟩ := move_game a b ha hb hc
  have HM := Lib.hid hM; clear hM
  have HC := Lib.hid (fun V => Cold_ok a b ha hb false (by simp [hc]) V)
  have HC2 := Lib.hid (fun V => Cold_ok x y (by omega) (by omega) true (by simp [hxy]) V)
  have k1 : (0 : Int) ≤ (a : Int) - x := by omega
  have k2 : (0 : Int) ≤ (b : Int) - y := by omega
  have k3 : (0 : Int) < (a : Int) - x + ((b : Int) - y) := by omega
  have k4 : (a : Int) - x ≤ 1000000 := by omega
  have k5 : (b : Int) - y ≤ 1000000 := by omega
  have hway' : (a : Int) - x = 0 ∨ (b : Int) - y = 0 ∨ (a : Int) - x = (b : Int) - y := by omega
  have e1 : IntKind.i64.wrap ((a : Int) - x) = (a : Int) - x := IntWalk.i64_in _ (by omega)
  have e2 : IntKind.i64.wrap ((b : Int) - y) = (b : Int) - y := IntWalk.i64_in _ (by omega)
  clear hc hxy hpos hway hx hy
  go_enter Try.func9, Try.ntmps9
  go_wp2_with fail
  refine (HC.out _).mono ?_
  rintro e w1 ⟨rfl, hb1⟩
  go_wp2_with fail
  refine (HM.out _).mono ?_
  rintro e w2 ⟨rfl, hb2⟩
  have t2 := hb1.trans (hb2.mono hb1.size)
  clear hb1 hb2
  go_wp2_with fail
  refine (HC2.out _).mono ?_
  rintro e w3 ⟨rfl, hb3⟩
  have X9 := (Box.new w2 43 x y).keep hb3
  have t3 := t2.trans ((below_new hb3).mono t2.size)
  clear hb3 t2
  have c0 := X9.c0
  have c1 := X9.c1
  have l9 := X9.lt
  go_wp2_with fail
  go_quiet (fail)
  clear e1 e2 c0 c1 l9 X9
  generalize (a : Int) - x = u at *
  generalize (b : Int) - y = v at *
  by_cases h1 : u = 0
  · subst h1
    clear hway'
    go_wp2_with fail
    (with_reducible refine (awake_any _).mono ?_)
    rintro e w4 ⟨rfl, hb4⟩
    go_wp2_with fail
    go_ret
    exact ⟨rfl, (below_drewN t3 _).trans (hb4.mono t3.size)⟩
  · have b1 : (u == 0) = false := by simpa using h1
    by_cases h2 : v = 0
    · subst h2
      clear hway'
      go_wp2_with fail
      (with_reducible refine (awake_any _).mono ?_)
      rintro e w4 ⟨rfl, hb4⟩
      go_wp2_with fail
      go_ret
      exact ⟨rfl, (below_drewN t3 _).trans (hb4.mono t3.size)⟩
    · have b2 : (v == 0) = false := by simpa using h2
      obtain rfl : u = v := by omega
      clear hway' h1 h2
      go_wp2_with fail
      (with_reducible refine (awake_any _).mono ?_)
      rintro e w4 ⟨rfl, hb4⟩
      go_wp2_with fail
      go_ret
      exact ⟨rfl, (below_drewN t3 _).trans (hb4.mono t3.size)⟩

theorem game_n (n : Int) : ∃ m : Nat, 1 ≤ m ∧ m ≤ 1000 ∧ wrap64 (1 + wrap64 ((IntKind.u64.wrap n).tmod 1000)) = m := by
  have h0 := wrap_u64_nonneg n
  generalize IntKind.u64.wrap n = u at *
  rw [Int.tmod_eq_emod_of_nonneg h0]
  refine ⟨1 + (u % 1000).toNat, by omega, by omega, ?_⟩
  rw [IntWalk.wrap64_in (u % 1000) (by omega), IntWalk.wrap64_in _ (by omega)]
  omega
/-- the three moves of m -/
def gcand (a b m : Nat) : Nat → Cand
  | 0 => ⟨(a : Int) - m, b⟩
  | 1 => ⟨a, (b : Int) - m⟩
  | _ => ⟨(a : Int) - m, (b : Int) - m⟩
theorem gcand_bd (a b m k : Nat) (ha : a ≤ 1000000) (hb : b ≤ 1000000) (hm : m ≤ 1000) : -1000 ≤ (gcand a b m k).x ∧ (gcand a b m k).x ≤ 1000000 ∧ -1000 ≤ (gcand a b m k).y ∧ (gcand a b m k).y ≤ 1000000 := by
  match k with
  | 0 => simp only [gcand]; omega
  | 1 => simp only [gcand]; omega
  | k + 2 => simp only [gcand]; omega
theorem gcand_not (a b m k : Nat) (ha : a ≤ 1000000) (hb : b ≤ 1000000) (hc : Cold a b) (h1 : 1 ≤ m) (_ : m ≤ 1000) (hx : 0 ≤ (gcand a b m k).x) (hy : 0 ≤ (gcand a b m k).y) :
    ¬ Cold (gcand a b m k).x.toNat (gcand a b m k).y.toNat := by
  match k with
  | 0 =>
    simp only [gcand] at *
    have := cold_left a b m ha hb hc h1 (by omega)
    rwa [show ((a : Int) - m).toNat = a - m by omega, show ((b : Nat) : Int).toNat = b by omega]
  | 1 =>
    simp only [gcand] at *
    have := cold_right a b m ha hb hc h1 (by omega)
    rwa [show ((b : Int) - m).toNat = b - m by omega, show ((a : Nat) : Int).toNat = a by omega]
  | k + 2 =>
    simp only [gcand] at *
    have := cold_diag a b m hc h1 (by omega) (by omega)
    rwa [show ((a : Int) - m).toNat = a - m by omega, show ((b : Int) - m).toNat = b - m by omega]
theorem Cold_int (x y : Int) (h0 : 0 ≤ x) (h1 : 0 ≤ y) (hx : x ≤ 1000000) (hy : y ≤ 1000000) (h : ¬ Cold x.toNat y.toNat) (w : World) :
    Calls Try.prog 31 #[.int .i64 x, .int .i64 y] w fun e w' => e = .returned (.tuple #[.bool false, .int .i64 0]) ∧ Below w.heap.size w w' := by
  have := Cold_ok x.toNat y.toNat (by omega) (by omega) false (by simp [h]) w
  rw [show ((x.toNat : Nat) : Int) = x by omega, show ((y.toNat : Nat) : Int) = y by omega] at this
  exact this

set_option maxRecDepth 100000 in
set_option maxHeartbeats 4000000 in
theorem numeralGame_cold (a b : Nat) (n : Int) (ha : a ≤ 1000000) (hb : b ≤ 1000000) (hc : Cold a b) (w : World) :
    Calls Try.prog 9 #[.int .i64 a, .int .i64 b, .int .i64 n] w fun e w' => e = .returned (.bool true) ∧ Below w.heap.size w w' := by
  have HM := Lib.hid (fun V => Move_cold a b ha hb hc V)
  have HC := Lib.hid (fun V => Cold_ok a b ha hb true (by simp [hc]) V)
  have HD := Lib.hid hc
  clear hc
  go_enter Try.func9, Try.ntmps9
  go_wp2_with fail
  refine (HC.out _).mono ?_
  rintro e w1 ⟨rfl, hb1⟩
  go_wp2_with fail
  refine (HM.out _).mono ?_
  rintro e w2 ⟨rfl, hb2⟩
  have t2 := hb1.trans (hb2.mono hb1.size)
  clear hb1 hb2
  have t3 := t2.alloc t2.size (.cells #[.int .i64 0, .int .i64 0] 43)
  go_wp2_with fail
  obtain ⟨m, hm1, hm2, hm⟩ := game_n n
  rw [hm, IntWalk.wrap64_in ((a : Int) - m) (by omega), IntWalk.wrap64_in ((b : Int) - m) (by omega)]
  have R := rowc_new (W := w2.alloc (Obj.cells #[Value.int IntKind.i64 0, Value.int IntKind.i64 0] 43)) rfl #[.int .i64 ((a : Int) - m), .int .i64 b, .int .i64 a, .int .i64 ((b : Int) - m), .int .i64 ((a : Int) - m), .int .i64 ((b : Int) - m)] (gcand a b m) 3 (fun k hk => by
    match k, hk with
    | 0, _ => exact ⟨rfl, rfl⟩
    | 1, _ => exact ⟨rfl, rfl⟩
    | 2, _ => exact ⟨rfl, rfl⟩)
  have t4 := t3.alloc t3.size (Obj.cells #[.int .i64 ((a : Int) - m), .int .i64 b, .int .i64 a, .int .i64 ((b : Int) - m), .int .i64 ((a : Int) - m), .int .i64 ((b : Int) - m)] 43)
  simp only [World.size_alloc] at R
  generalize (w2.alloc (Obj.cells #[Value.int IntKind.i64 0, Value.int IntKind.i64 0] 43)).alloc (Obj.cells #[.int .i64 ((a : Int) - m), .int .i64 b, .int .i64 a, .int .i64 ((b : Int) - m), .int .i64 ((a : Int) - m), .int .i64 ((b : Int) - m)] 43) = W at *
  clear hm t2 t3
  go_loopw [131] (fun i wr => ∃ k : Nat, k ≤ 3 ∧ i = .int .i64 k ∧ RowC wr (w2.heap.size + 1) (gcand a b m) 3 ∧ Below w.heap.size w wr)
    (fun i _ => 3 - (intOf i).toNat)
  case atStart => exact ⟨0, by omega, rfl, R, t4⟩
  case round =>
    obtain ⟨k, hk, rfl, CR, CB⟩ := hrel
    clear R t4
    by_cases hlt : k < 3
    · have c0 := (CR.2 k hlt).1
      have c1 := (CR.2 k hlt).2
      have lr := CR.1
      have hbd := gcand_bd a b m k ha hb hm2
      have HN := Lib.hid (gcand_not a b m k ha hb HD.out hm1 hm2)
      generalize (gcand a b m k).x = cx at *
      generalize (gcand a b m k).y = cy at *
      have XR := CR.alloc (.cells #[.int .i64 cx, .int .i64 cy] 43)
      have XB := CB.alloc CB.size (.cells #[.int .i64 cx, .int .i64 cy] 43)
      by_cases hx0 : cx < 0
      · have t0 : decide (cx < 0) = true := decide_eq_true hx0
        go_wp2_with fail
        go_roundw
        case rel => exact ⟨k + 1, by omega, by go_num, XR, XB⟩
        case measure => simp [intOf]; omega
      · have t0 : decide (cx < 0) = false := decide_eq_false hx0
        by_cases hy0 : cy < 0
        · have t1 : decide (cy < 0) = true := decide_eq_true hy0
          go_wp2_with fail
          go_roundw
          case rel => exact ⟨k + 1, by omega, by go_num, XR, XB⟩
          case measure => simp [intOf]; omega
        · have t1 : decide (cy < 0) = false := decide_eq_false hy0
          go_wp2_with fail
          (with_reducible refine (Cold_int cx cy (by omega) (by omega) (by omega) (by omega) (HN.out (by omega) (by omega)) _).mono ?_)
          rintro e w4 ⟨rfl, hb4⟩
          have YR := XR.keep hb4
          have YB := XB.trans (hb4.mono XB.size)
          clear XR XB CR CB c0 c1 lr hb4
          go_wp2_with fail
          go_roundw
          case rel => exact ⟨k + 1, by omega, by go_num, YR, YB⟩
          case measure => simp [intOf]; omega
    · obtain rfl : k = 3 := by omega
      go_wp2_with fail
      (with_reducible refine (awake_any _).mono ?_)
      rintro e w4 ⟨rfl, hb4⟩
      go_wp2_with fail
      go_ret
      exact ⟨rfl, CB.trans (hb4.mono CB.size)⟩
/-- The walk of the law. -/
theorem numeralGame_walk (w : World) (a : Int) (_ : -9223372036854775808 ≤ a ∧ a ≤ 9223372036854775807) (b : Int) (_ : -9223372036854775808 ≤ b ∧ b ≤ 9223372036854775807) (n : Int) (_ : -9223372036854775808 ≤ n ∧ n ≤ 9223372036854775807) :
    Calls Try.prog 9 #[.int .i64 a, .int .i64 b, .int .i64 n] w fun e w' => e = .returned (.bool true) ∧ Below w.heap.size w w' := by
  by_cases hab : a < 0 ∨ b < 0 ∨ 1000000 < a ∨ 1000000 < b
  · exact numeralGame_bad a b n hab w
  · obtain ⟨x, rfl⟩ := Int.eq_ofNat_of_zero_le (show 0 ≤ a by omega)
    obtain ⟨y, rfl⟩ := Int.eq_ofNat_of_zero_le (show 0 ≤ b by omega)
    by_cases hc : Cold x y
    · exact numeralGame_cold x y n (by omega) (by omega) hc w
    · exact numeralGame_free x y n (by omega) (by omega) hc w
end Go.Proofs.Ytiknocjdogbajaa
