/- Walks: Roots and Square of the program, Roots of the reference, the law's awake. -/
import Derived.Test.YtdkobkghhnccgaaH
namespace Go.Proofs.Ytdkobkghhnccgaa
open Go.RowKit
def rootsk (f : List Int) (q k : Nat) : List Int := ((List.range k).map (fun x : Nat => (x : Int))).filter fun x => ev f x % q == 0
theorem rootsk_all (f : List Int) (q : Nat) : rootsk f q q = rootsL f q := rfl
theorem rootsk_yes (f : List Int) (q k : Nat) (h : ev f k % q = 0) : rootsk f q (k + 1) = rootsk f q k ++ [(k : Int)] := by
  unfold rootsk
  rw [List.range_succ, List.map_append, List.filter_append]
  simp [h]
theorem rootsk_no (f : List Int) (q k : Nat) (h : ¬ ev f k % q = 0) : rootsk f q (k + 1) = rootsk f q k := by
  unfold rootsk
  rw [List.range_succ, List.map_append, List.filter_append]
  simp [h]
theorem rootsk_le (f : List Int) (q k : Nat) : (rootsk f q k).length ≤ k := by
  unfold rootsk
  refine Nat.le_trans (List.length_filter_le _ _) (by simp)
set_option maxHeartbeats 4000000 in
theorem rRoots_any (v : Value) (f : List Int) (q : Nat) (h1 : 1 ≤ q) (h2 : q ≤ 20000) (hl : f.length ≤ 1000) (w : World) (hv : Ints w v f) :
    Calls Try.prog 29 #[v, .int .i64 q] w fun e w' => ∃ v', e = .returned v' ∧ Own w' w.heap.size v' (rootsL f q) ∧ Below w.heap.size w w' := by
  have HV := Lib.hid hv
  obtain ⟨_, A, c, rfl, _, _⟩ := hv
  go_enter Try.func29, Try.ntmps29
  go_wp2_with fail
  go_loopw [5, 8] (fun o i wr => ∃ k : Nat, k ≤ q ∧ i = .int .i64 k ∧ Own wr w.heap.size o (rootsk f q k) ∧ Below w.heap.size w wr) (fun _ i _ => q - (intOf i).toNat)
  case atStart => exact ⟨0, by omega, rfl, Own.nil _ _, Below.refl _ _⟩
  case round =>
    obtain ⟨k, hk, rfl, hown, hb⟩ := hrel
    have HO := Lib.hid hown
    have HB := Lib.hid hb
    clear hown hb
    by_cases hlt : k < q
    · have HVI := Lib.hid (HV.out.keep HB.out)
      have hkl := rootsk_le f q k
      go_wp2_with fail
      with_reducible refine (rAt_any _ f (k : Int) (q : Int) (by omega) (by omega) (by omega) (by omega) (by omega) _ HVI.out).mono ?_
      rintro e w2 ⟨rfl, b2⟩
      have HB2 := Lib.hid (HB.out.trans (b2.mono HB.out.size))
      have HO2 := Lib.hid (HO.out.same (fun b _ hlt => b2.block b hlt))
      clear b2
      by_cases hz : ev f (k : Int) % (q : Int) = 0
      · have hz1 : (ev f (k : Int) % (q : Int) == 0) = true := by rw [hz]; rfl
        have HA := Lib.hid (rootsk_yes f q k hz)
        clear hz
        have hown := HO2.out
        go_wp2_with (at_builtin; refine wpList_append_new _ rfl _ _ 22 rfl Try.underlying22 w.heap.size u5 _ rfl hown (k : Int) rfl (by omega) HB2.out.size ?_; intro v' w1 hown1 _ hb1)
        go_roundw
        case rel => exact ⟨k + 1, by omega, by go_num, by rw [HA.out]; exact hown1, HB2.out.trans hb1⟩
        case measure => simp [intOf]; omega
      · have hz1 : (ev f (k : Int) % (q : Int) == 0) = false := by rw [beq_eq_false_iff_ne]; exact hz
        have HA := Lib.hid (rootsk_no f q k hz)
        clear hz
        go_wp2_with fail
        go_roundw
        case rel => exact ⟨k + 1, by omega, by go_num, by rw [HA.out]; exact HO2.out, HB2.out⟩
        case measure => simp [intOf]; omega
    · obtain rfl : k = q := by omega
      go_wp2_with fail
      go_ret
      exact ⟨_, rfl, HO.out, HB.out⟩
theorem Poly.coefs {f : List Int} (h : Poly f) : Coefs f := fun k hk => by have := h.1 k hk; omega
set_option maxHeartbeats 4000000 in
theorem Roots_yes (base : Nat) (v : Value) (f : List Int) (P K : Nat) (hP : isP P) (hK : 1 ≤ K) (hq : pn P K ≤ 20000) (hf : Poly f) (w : World) (hv : Own w base v f) :
    Calls Try.prog 19 #[v, .int .i64 P, .int .i64 K] w fun e w' => ∃ v', e = .returned (.tuple #[v', .int .i64 0]) ∧ Own w' w.heap.size v' (rootsL f (pn P K)) ∧ Below w.heap.size w w' := by
  have HV := Lib.hid hv
  have HF := Lib.hid hf
  have HP := Lib.hid hP
  have HQ := Lib.hid hq
  obtain ⟨A0, n0, c0, rfl⟩ := hv.isSlice
  clear hv hf hP hq
  go_enter Try.func19, Try.ntmps19
  go_wp2_with fail
  refine (power_yes P K HP.out hK HQ.out _).mono ?_
  rintro e w1 ⟨rfl, b1⟩
  have HV1 := Lib.hid (HV.out.same (fun b _ hlt => b1.block b hlt))
  go_wp2_with fail
  refine (valid_any base _ f true (by simp; exact HF.out) _ HV1.out).mono ?_
  rintro e _ ⟨rfl, rfl⟩
  go_wp2_with fail
  refine (roots_any base _ f P K HP.out HQ.out HF.out.coefs (by have := HF.out.2.2.1; omega) _ HV1.out).mono ?_
  rintro e w2 ⟨v2, rfl, o2, b2⟩
  have HO := Lib.hid (o2.base b1.size)
  have HB := Lib.hid (b1.trans (b2.mono b1.size))
  clear o2 b1 b2
  go_wp2_with fail
  exact bodyPost_ret (v := .tuple #[v2, .int .i64 0]) (by simp [results, Try.results19, go_sem]) rfl ⟨v2, rfl, HO.out, HB.out⟩
set_option maxHeartbeats 4000000 in
theorem Roots_no (base : Nat) (v : Value) (f : List Int) (p k : Int) (h : ¬ (PK p k ∧ Poly f)) (w : World) (hv : Own w base v f) :
    Calls Try.prog 19 #[v, .int .i64 p, .int .i64 k] w fun e w' => e = .returned (.tuple #[.slice none 0 0, .int .i64 2]) ∧ Below w.heap.size w w' := by
  have HV := Lib.hid hv
  obtain ⟨A0, n0, c0, rfl⟩ := hv.isSlice
  by_cases hp : PK p k
  · have HF := Lib.hid (show ¬ Poly f from fun hf => h ⟨hp, hf⟩)
    have HPK := Lib.hid hp
    obtain ⟨P, K, rfl, rfl, hP, hK, hq⟩ := hp
    have HP := Lib.hid hP
    have HQ := Lib.hid hq
    clear h hv hP hq
    go_enter Try.func19, Try.ntmps19
    go_wp2_with fail
    refine (power_yes P K HP.out hK HQ.out _).mono ?_
    rintro e w1 ⟨rfl, b1⟩
    have HV1 := Lib.hid (HV.out.same (fun b _ hlt => b1.block b hlt))
    go_wp2_with fail
    refine (valid_any base _ f false (by simp; exact HF.out) _ HV1.out).mono ?_
    rintro e _ ⟨rfl, rfl⟩
    go_wp2_with fail
    exact bodyPost_ret (v := .tuple #[.slice none 0 0, .int .i64 2]) (by simp [results, Try.results19, go_sem]) rfl ⟨rfl, b1⟩
  · have HP := Lib.hid hp
    clear h hv hp
    go_enter Try.func19, Try.ntmps19
    go_wp2_with fail
    refine (power_no p k HP.out _).mono ?_
    rintro e w1 ⟨rfl, b1⟩
    go_wp2_with fail
    exact bodyPost_ret (v := .tuple #[.slice none 0 0, .int .i64 2]) (by simp [results, Try.results19, go_sem]) rfl ⟨rfl, b1⟩
theorem awake_roots : rootsL [-2, 1] (pn 3 2) = [2] := by decide +kernel
set_option maxHeartbeats 4000000 in
theorem awake_any (w : World) : Calls Try.prog 17 #[] w fun e w' => e = .returned (.bool true) ∧ Below w.heap.size w w' := by
  have HO := Lib.hid (Own.lit w w.heap.size (Nat.le_refl _) #[.int .i64 (-2), .int .i64 1] [-2, 1] 2 rfl rfl (by decide))
  have HB0 := Lib.hid ((Below.refl w.heap.size w).alloc (Nat.le_refl _) (.cells #[.int .i64 (-2), .int .i64 1] 3))
  have HPY := Lib.hid (show Poly [-2, 1] from ⟨fun k hk => by
    have : k = 0 ∨ k = 1 := by simp at hk; omega
    rcases this with rfl | rfl <;> decide, by decide, by decide, by decide⟩)
  go_enter Try.func17, Try.ntmps17
  go_wp2_with fail
  refine (Roots_yes w.heap.size _ [-2, 1] 3 2 (by unfold isP; omega) (by omega) (by decide) HPY.out _ HO.out).mono ?_
  rintro e w1 ⟨v1, rfl, o1, b1⟩
  rw [awake_roots] at o1
  have HB := Lib.hid (HB0.out.trans (b1.mono HB0.out.size))
  have I1 := Lib.hid ((o1.ints (by decide)).keep ((Below.refl w1.heap.size w1).alloc (Nat.le_refl _) (.cells #[.int .i64 2] 3)))
  have I2 := Lib.hid (Ints.lit w1 #[.int .i64 2] [2] 1 rfl rfl (by decide))
  clear o1 b1
  go_wp2_with fail
  refine (equal_yes _ _ [2] _ I1.out I2.out).mono ?_
  rintro e w2 ⟨rfl, b2⟩
  have HB2 := Lib.hid ((HB.out.alloc HB.out.size (.cells #[.int .i64 2] 3)).trans (b2.mono (by have := HB.out.size; simp; omega)))
  clear b2
  go_wp2_with fail
  go_ret
  exact ⟨rfl, HB2.out⟩
theorem sq_coefs (a : Int) (h1 : -1000000 ≤ a) (h2 : a ≤ 1000000) : Coefs (sq a) := by
  intro k hk
  have : k = 0 ∨ k = 1 ∨ k = 2 := by simp [sq] at hk; omega
  rcases this with rfl | rfl | rfl <;> simp [sq] <;> omega
set_option maxHeartbeats 4000000 in
theorem Square_yes (a : Int) (h1 : -1000000 ≤ a) (h2 : a ≤ 1000000) (P K : Nat) (hP : isP P) (hK : 1 ≤ K) (hq : pn P K ≤ 20000) (w : World) :
    Calls Try.prog 15 #[.int .i64 a, .int .i64 P, .int .i64 K] w fun e w' => ∃ v', e = .returned (.tuple #[v', .int .i64 0]) ∧ Own w' w.heap.size v' (rootsL (sq a) (pn P K)) ∧ Below w.heap.size w w' := by
  have HC := Lib.hid (sq_coefs a h1 h2)
  have HP := Lib.hid hP
  have HQ := Lib.hid hq
  have d1 : decide (a < -1000000) = false := decide_eq_false (by omega)
  have d2 : decide (1000000 < a) = false := decide_eq_false (by omega)
  clear hP hq
  go_enter Try.func15, Try.ntmps15
  go_wp2_with fail
  refine (power_yes P K HP.out hK HQ.out _).mono ?_
  rintro e w1 ⟨rfl, b1⟩
  have HO := Lib.hid (show Own (w1.alloc (.cells #[.int .i64 (-a), .int .i64 0, .int .i64 1] 3)) w1.heap.size (.slice (some ⟨w1.heap.size, 0, none⟩) 3 3) (sq a) from Own.lit w1 w1.heap.size (Nat.le_refl _) #[.int .i64 (-a), .int .i64 0, .int .i64 1] (sq a) 3 rfl rfl (by simp [sq]))
  have HB1 := Lib.hid (b1.alloc b1.size (.cells #[.int .i64 (-a), .int .i64 0, .int .i64 1] 3))
  clear b1
  go_wp2_with fail
  refine (roots_any w1.heap.size _ (sq a) P K HP.out HQ.out HC.out (by simp [sq]) _ HO.out).mono ?_
  rintro e w2 ⟨v2, rfl, o2, b2⟩
  have HO2 := Lib.hid (o2.base HB1.out.size)
  have HB := Lib.hid (HB1.out.trans (b2.mono HB1.out.size))
  clear o2 b2
  go_wp2_with fail
  exact bodyPost_ret (v := .tuple #[v2, .int .i64 0]) (by simp [results, Try.results15, go_sem]) rfl ⟨v2, rfl, HO2.out, HB.out⟩
set_option maxHeartbeats 4000000 in
theorem Square_no (a p k : Int) (h : ¬ (PK p k ∧ -1000000 ≤ a ∧ a ≤ 1000000)) (w : World) :
    Calls Try.prog 15 #[.int .i64 a, .int .i64 p, .int .i64 k] w fun e w' => e = .returned (.tuple #[.slice none 0 0, .int .i64 2]) ∧ Below w.heap.size w w' := by
  by_cases hp : PK p k
  · have HPK := Lib.hid hp
    obtain ⟨P, K, rfl, rfl, hP, hK, hq⟩ := hp
    have HP := Lib.hid hP
    have HQ := Lib.hid hq
    by_cases h1 : a < -1000000
    · have d1 : decide (a < -1000000) = true := decide_eq_true h1
      clear h hP hq
      go_enter Try.func15, Try.ntmps15
      go_wp2_with fail
      refine (power_yes P K HP.out hK HQ.out _).mono ?_
      rintro e w1 ⟨rfl, b1⟩
      go_wp2_with fail
      exact bodyPost_ret (v := .tuple #[.slice none 0 0, .int .i64 2]) (by simp [results, Try.results15, go_sem]) rfl ⟨rfl, b1⟩
    · have d1 : decide (a < -1000000) = false := decide_eq_false h1
      have h3 : 1000000 < a := by
        rcases (show 1000000 < a ∨ a ≤ 1000000 by omega) with g | g
        · exact g
        · exact absurd ⟨HPK.out, by omega, g⟩ h
      have d2 : decide (1000000 < a) = true := decide_eq_true h3
      clear h hP hq
      go_enter Try.func15, Try.ntmps15
      go_wp2_with fail
      refine (power_yes P K HP.out hK HQ.out _).mono ?_
      rintro e w1 ⟨rfl, b1⟩
      go_wp2_with fail
      exact bodyPost_ret (v := .tuple #[.slice none 0 0, .int .i64 2]) (by simp [results, Try.results15, go_sem]) rfl ⟨rfl, b1⟩
  · have HP := Lib.hid hp
    clear h hp
    go_enter Try.func15, Try.ntmps15
    go_wp2_with fail
    refine (power_no p k HP.out _).mono ?_
    rintro e w1 ⟨rfl, b1⟩
    go_wp2_with fail
    exact bodyPost_ret (v := .tuple #[.slice none 0 0, .int .i64 2]) (by simp [results, Try.results15, go_sem]) rfl ⟨rfl, b1⟩
end Go.Proofs.Ytdkobkghhnccgaa
