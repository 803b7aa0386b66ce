/- The walk of PartsPentagons. -/
import Derived.Test.YtpgpkgnljoedaaaPe
namespace Go.Proofs.Ytpgpkgnljoedaaa
open Go.RowKit

theorem wrap64_left (a b : Int) : wrap64 (wrap64 a + b) = wrap64 (a + b) := by unfold wrap64; omega
theorem gp_facts : ∀ J : Nat, J ≤ 16 → (0 ≤ ((J : Int) + 1) * (3 * ((J : Int) + 1) - 1) ∧ ((J : Int) + 1) * (3 * ((J : Int) + 1) - 1) ≤ 1000 ∧ 0 ≤ ((J : Int) + 1) * (3 * ((J : Int) + 1) + 1) ∧ ((J : Int) + 1) * (3 * ((J : Int) + 1) + 1) ≤ 1000 ∧
    ((J : Int) + 1) * (3 * ((J : Int) + 1) - 1) / 2 = (gp (J + 1) 0 : Nat) ∧ ((J : Int) + 1) * (3 * ((J : Int) + 1) + 1) / 2 = (gp (J + 1) 1 : Nat)) := by decide +kernel
theorem wrap64_zero : wrap64 0 = 0 := by unfold wrap64; omega
theorem gp_17 : gp (16 + 1) 0 = 425 := by decide +kernel
theorem Count_sub (n g : Nat) (h : g ≤ n) (hn : n ≤ 400) (w : World) :
    Calls Try.prog 18 #[.int .i64 ((n : Int) - g)] w fun e w' => e = .returned (.tuple #[.int .i64 (V yes (n - g) (n - g) : Nat), .int .i64 0]) ∧ Below w.heap.size w w' := by
  have := Count_ok (n - g) (by omega) w
  rw [show ((n - g : Nat) : Int) = (n : Int) - g by omega] at this
  exact this
theorem Pent_val (g : Nat) (hg : g ≤ 100) (v : Int) (hv : En g g = v) (w : World) :
    Calls Try.prog 23 #[.int .i64 g] w fun e w' => e = .returned (.tuple #[.int .i64 v, .int .i64 0]) ∧ Below w.heap.size w w' := by
  have := Pentagonal_ok g hg w
  rw [hv] at this
  exact this
theorem Pent_not (g : Nat) (hg : 100 < g) (w : World) :
    Calls Try.prog 23 #[.int .i64 g] w fun e w' => e = .returned (.tuple #[.int .i64 0, .int .i64 2]) ∧ w = w' := Pentagonal_no g (.inr (by omega)) w
theorem tm_pos (n J i : Nat) (h : gp (J + 1) i ≤ n) (s : Int) (hs : sg (J + 1) = s) : tm n (J + 1) i = ((V yes (n - gp (J + 1) i) (n - gp (J + 1) i) : Nat) : Int) * s := by unfold tm; rw [if_pos h, hs]
theorem tm_zero (n J i : Nat) (h : n < gp (J + 1) i) : tm n (J + 1) i = 0 := if_neg (by omega)
set_option maxRecDepth 100000 in
set_option maxHeartbeats 4000000 in
theorem partsPentagons_no (n : Int) (hn : n < 0 ∨ 400 < n) (w : World) :
    Calls Try.prog 4 #[.int .i64 n] w fun e w' => e = .returned (.bool true) ∧ Below w.heap.size w w' := by
  have HC := Lib.hid (fun V => Count_no n hn V)
  clear hn
  go_enter Try.func4, Try.ntmps4
  go_wp2_with fail
  refine (HC.out _).mono ?_
  rintro e _ ⟨rfl, rfl⟩
  go_wp2_with fail
  (with_reducible refine (awake_any _).mono ?_)
  rintro e w6 ⟨rfl, b6⟩
  go_wp2_with fail
  go_ret
  exact ⟨rfl, b6⟩
set_option maxRecDepth 100000 in
set_option maxHeartbeats 4000000 in
theorem partsPentagons_zero (w : World) :
    Calls Try.prog 4 #[.int .i64 0] w fun e w' => e = .returned (.bool true) ∧ Below w.heap.size w w' := by
  have HC := Lib.hid (fun V => Count_ok 0 (by omega) V)
  have e0 : ((V yes 0 0 : Nat) : Int) = 1 := rfl
  rw [e0] at HC
  go_enter Try.func4, Try.ntmps4
  go_wp2_with fail
  refine (HC.out _).mono ?_
  rintro e w1 ⟨rfl, b1⟩
  go_wp2_with fail
  (with_reducible refine (awake_any _).mono ?_)
  rintro e w6 ⟨rfl, b6⟩
  go_wp2_with fail
  go_ret
  exact ⟨rfl, b1.trans (b6.mono b1.size)⟩

set_option maxRecDepth 100000 in
set_option maxHeartbeats 16000000 in
theorem partsPentagons_mid (n : Nat) (h1 : 1 ≤ n) (hn : n ≤ 400) (w : World) :
    Calls Try.prog 4 #[.int .i64 n] w fun e w' => e = .returned (.bool true) ∧ Below w.heap.size w w' := by
  have HEU := Lib.hid (euler n h1 hn)
  have HVN := Lib.hid (V_bound yes n n hn)
  have HCN := Lib.hid (fun V => Count_ok n hn V)
  have d1 : decide ((n : Int) < 1) = false := decide_eq_false (by omega)
  have d1' : decide (n < 1) = false := decide_eq_false (by omega)
  have d4 : decide (400 < n) = false := decide_eq_false (by omega)
  go_enter Try.func4, Try.ntmps4
  go_wp2_with fail
  refine (HCN.out _).mono ?_
  rintro e w1 ⟨rfl, b1⟩
  go_wp2_with fail
  go_loopw [5, 6] (fun s j wr => ∃ J : Nat, J ≤ 16 ∧ j = .int .i64 ((J : Int) + 1) ∧ s = .int .i64 (wrap64 (SS n J)) ∧ Below w.heap.size w wr)
    (fun _ j _ => 18 - (intOf j).toNat)
  case atStart => exact ⟨0, by omega, rfl, congrArg _ wrap64_zero.symm, b1⟩
  case round =>
    obtain ⟨J, hJ, rfl, rfl, hb⟩ := hrel
    clear b1
    obtain ⟨p1, p2, p3, p4, e0, e1⟩ := gp_facts J hJ
    have E0 := Lib.hid e0
    have E1 := Lib.hid e1
    have hgb : gp (J + 1) 0 ≤ 1000 ∧ gp (J + 1) 1 ≤ 1000 := by omega
    have HGB := Lib.hid hgb
    clear e0 e1 hgb
    by_cases hj : gp (J + 1) 0 ≤ n
    · have hJ16 : J + 1 ≤ 16 := by
        rcases Nat.lt_or_ge J 16 with h | h
        · omega
        · obtain rfl : J = 16 := by omega
          have := gp_17
          omega
      have dj : decide (((J : Int) + 1) * (3 * ((J : Int) + 1) - 1) / 2 ≤ n) = true := decide_eq_true (by rw [E0.out]; omega)
      clear hj
      rcases Nat.mod_two_eq_zero_or_one (J + 1) with hp | hp
      · have hpar : ((J : Int) + 1) % 2 = 0 := by omega
        have HPAR := Lib.hid hpar
        clear hp
        have HSG := Lib.hid (show sg (J + 1) = (-1) from by unfold sg; have := HPAR.out; omega)
        go_wp2_with fail
        rw [E0.out, E1.out]
        have hc0 : (wr.alloc (Obj.cells #[.int .i64 (gp (J + 1) 0 : Nat), .int .i64 (gp (J + 1) 1 : Nat)] 3)).cell? ⟨wr.heap.size, 0, none⟩ = some (.int .i64 (gp (J + 1) 0 : Nat)) := cell_of_row _ _ _ _ 3 (0, 0) (heap_alloc_new wr _)
        have hc1 : (wr.alloc (Obj.cells #[.int .i64 (gp (J + 1) 0 : Nat), .int .i64 (gp (J + 1) 1 : Nat)] 3)).cell? ⟨wr.heap.size, 1, none⟩ = some (.int .i64 (gp (J + 1) 1 : Nat)) := cell_of_row _ _ _ _ 3 (0, 0) (heap_alloc_new wr _)
        have hlG : wr.heap.size < (wr.alloc (Obj.cells #[.int .i64 (gp (J + 1) 0 : Nat), .int .i64 (gp (J + 1) 1 : Nat)] 3)).heap.size := by simp
        have hbA := hb.alloc hb.size (Obj.cells #[.int .i64 (gp (J + 1) 0 : Nat), .int .i64 (gp (J + 1) 1 : Nat)] 3)
        generalize wr.alloc (Obj.cells #[.int .i64 (gp (J + 1) 0 : Nat), .int .i64 (gp (J + 1) 1 : Nat)] 3) = W at *
        generalize wr.heap.size = G at *
        clear hb
        go_loopw [5, 65] (fun s i wi => ∃ k : Nat, k ≤ 2 ∧ i = .int .i64 k ∧ s = .int .i64 (wrap64 (SI n J k)) ∧ Below W.heap.size W wi ∧ Below w.heap.size w wi)
          (fun _ i _ => 2 - (intOf i).toNat)
        case atStart => exact ⟨0, by omega, rfl, rfl, Below.refl _ _, hbA⟩
        case round =>
          obtain ⟨i, hi, rfl, rfl, hbi, hb0⟩ := hrel
          clear hbA
          by_cases hi2 : i < 2
          · by_cases hi0 : i = 0
            · subst hi0
              have hcx := (hbi.cell (p := ⟨G, 0, none⟩) hlG).trans hc0
              have hgb : gp (J + 1) 0 ≤ 1000 := by have := HGB.out; omega
              have HPV := Lib.hid (pent_gp (J + 1) 0 (by omega) (by omega) (by omega))
              have HSI := Lib.hid (show SI n J (0 + 1) = SI n J 0 + tm n (J + 1) 0 from rfl)
              have HT1 := Lib.hid (fun h => tm_pos n J 0 h (-1) HSG.out)
              have HT0 := Lib.hid (tm_zero n J 0)
              have HVB := Lib.hid (V_bound yes (n - gp (J + 1) 0) (n - gp (J + 1) 0) (by omega))
              generalize hgg : gp (J + 1) 0 = g at *
              clear hgg
              by_cases hgn : n < g
              · have dg : decide ((n : Int) < g) = true := decide_eq_true (by omega)
                have dg2 : decide (n < g) = true := decide_eq_true (by omega)
                have HE := Lib.hid (HT0.out hgn)
                go_wp2_with fail
                go_roundw
                case rel => exact ⟨0 + 1, by omega, by go_num, by rw [HSI.out, HE.out, Int.add_zero], hbi, hb0⟩
                case measure => simp [intOf]
              · have dg : decide ((n : Int) < g) = false := decide_eq_false (by omega)
                have dg2 : decide (n < g) = false := decide_eq_false (by omega)
                have HE := Lib.hid (HT1.out (by omega))
                have hvb := HVB.out
                have HCS := Lib.hid (fun V => Count_sub n g (by omega) hn V)
                generalize V yes (n - g) (n - g) = m at *
                have hm1 : (m : Int) ≤ 6727090051741041926 := by omega
                go_wp2_with fail
                (with_reducible refine (HCS.out _).mono ?_)
                rintro e w2 ⟨rfl, b2⟩
                have hbi2 := hbi.trans (b2.mono hbi.size)
                have hb02 := hb0.trans (b2.mono hb0.size)
                clear hbi hb0 b2 hcx
                by_cases hg100 : g ≤ 100
                · have d1 : decide ((g : Int) ≤ 100) = true := decide_eq_true (by omega)
                  have d12 : decide (g ≤ 100) = true := decide_eq_true (by omega)
                  have HPC := Lib.hid (fun V => Pent_val g hg100 (1) (by rw [HPV.out hg100]; have := HPAR.out; omega) V)
                  go_wp2_with fail
                  (with_reducible refine (HPC.out _).mono ?_)
                  rintro e w3 ⟨rfl, b3⟩
                  have hbi3 := hbi2.trans (b3.mono hbi2.size)
                  have hb03 := hb02.trans (b3.mono hb02.size)
                  clear hbi2 hb02 b3
                  go_wp2_with fail
                  go_roundw
                  case rel => exact ⟨0 + 1, by omega, by go_num, by rw [HSI.out, HE.out, ← wrap64_left (SI n J 0)]; simp, hbi3, hb03⟩
                  case measure => simp [intOf]
                · have d1 : decide ((g : Int) ≤ 100) = false := decide_eq_false (by omega)
                  have d12 : decide (g ≤ 100) = false := decide_eq_false (by omega)
                  go_wp2_with fail
                  (with_reducible refine (Pent_not g (by omega) _).mono ?_)
                  rintro e _ ⟨rfl, rfl⟩
                  go_wp2_with fail
                  go_roundw
                  case rel => exact ⟨0 + 1, by omega, by go_num, by rw [HSI.out, HE.out, ← wrap64_left (SI n J 0)]; simp, hbi2, hb02⟩
                  case measure => simp [intOf]
            · obtain rfl : i = 1 := by omega
              have hcx := (hbi.cell (p := ⟨G, 1, none⟩) hlG).trans hc1
              have hgb : gp (J + 1) 1 ≤ 1000 := by have := HGB.out; omega
              have HPV := Lib.hid (pent_gp (J + 1) 1 (by omega) (by omega) (by omega))
              have HSI := Lib.hid (show SI n J (1 + 1) = SI n J 1 + tm n (J + 1) 1 from rfl)
              have HT1 := Lib.hid (fun h => tm_pos n J 1 h (-1) HSG.out)
              have HT0 := Lib.hid (tm_zero n J 1)
              have HVB := Lib.hid (V_bound yes (n - gp (J + 1) 1) (n - gp (J + 1) 1) (by omega))
              generalize hgg : gp (J + 1) 1 = g at *
              clear hgg
              by_cases hgn : n < g
              · have dg : decide ((n : Int) < g) = true := decide_eq_true (by omega)
                have dg2 : decide (n < g) = true := decide_eq_true (by omega)
                have HE := Lib.hid (HT0.out hgn)
                go_wp2_with fail
                go_roundw
                case rel => exact ⟨1 + 1, by omega, by go_num, by rw [HSI.out, HE.out, Int.add_zero], hbi, hb0⟩
                case measure => simp [intOf]
              · have dg : decide ((n : Int) < g) = false := decide_eq_false (by omega)
                have dg2 : decide (n < g) = false := decide_eq_false (by omega)
                have HE := Lib.hid (HT1.out (by omega))
                have hvb := HVB.out
                have HCS := Lib.hid (fun V => Count_sub n g (by omega) hn V)
                generalize V yes (n - g) (n - g) = m at *
                have hm1 : (m : Int) ≤ 6727090051741041926 := by omega
                go_wp2_with fail
                (with_reducible refine (HCS.out _).mono ?_)
                rintro e w2 ⟨rfl, b2⟩
                have hbi2 := hbi.trans (b2.mono hbi.size)
                have hb02 := hb0.trans (b2.mono hb0.size)
                clear hbi hb0 b2 hcx
                by_cases hg100 : g ≤ 100
                · have d1 : decide ((g : Int) ≤ 100) = true := decide_eq_true (by omega)
                  have d12 : decide (g ≤ 100) = true := decide_eq_true (by omega)
                  have HPC := Lib.hid (fun V => Pent_val g hg100 (1) (by rw [HPV.out hg100]; have := HPAR.out; omega) V)
                  go_wp2_with fail
                  (with_reducible refine (HPC.out _).mono ?_)
                  rintro e w3 ⟨rfl, b3⟩
                  have hbi3 := hbi2.trans (b3.mono hbi2.size)
                  have hb03 := hb02.trans (b3.mono hb02.size)
                  clear hbi2 hb02 b3
                  go_wp2_with fail
                  go_roundw
                  case rel => exact ⟨1 + 1, by omega, by go_num, by rw [HSI.out, HE.out, ← wrap64_left (SI n J 1)]; simp, hbi3, hb03⟩
                  case measure => simp [intOf]
                · have d1 : decide ((g : Int) ≤ 100) = false := decide_eq_false (by omega)
                  have d12 : decide (g ≤ 100) = false := decide_eq_false (by omega)
                  go_wp2_with fail
                  (with_reducible refine (Pent_not g (by omega) _).mono ?_)
                  rintro e _ ⟨rfl, rfl⟩
                  go_wp2_with fail
                  go_roundw
                  case rel => exact ⟨1 + 1, by omega, by go_num, by rw [HSI.out, HE.out, ← wrap64_left (SI n J 1)]; simp, hbi2, hb02⟩
                  case measure => simp [intOf]
          · obtain rfl : i = 2 := by omega
            rw [SI_two]
            go_wp2_with fail
            go_roundw
            case rel => exact ⟨J + 1, by omega, by go_num, rfl, hb0⟩
            case measure => simp [intOf]; omega
      · have hpar : ((J : Int) + 1) % 2 = 1 := by omega
        have HPAR := Lib.hid hpar
        clear hp
        have HSG := Lib.hid (show sg (J + 1) = 1 from by unfold sg; have := HPAR.out; omega)
        go_wp2_with fail
        rw [E0.out, E1.out]
        have hc0 : (wr.alloc (Obj.cells #[.int .i64 (gp (J + 1) 0 : Nat), .int .i64 (gp (J + 1) 1 : Nat)] 3)).cell? ⟨wr.heap.size, 0, none⟩ = some (.int .i64 (gp (J + 1) 0 : Nat)) := cell_of_row _ _ _ _ 3 (0, 0) (heap_alloc_new wr _)
        have hc1 : (wr.alloc (Obj.cells #[.int .i64 (gp (J + 1) 0 : Nat), .int .i64 (gp (J + 1) 1 : Nat)] 3)).cell? ⟨wr.heap.size, 1, none⟩ = some (.int .i64 (gp (J + 1) 1 : Nat)) := cell_of_row _ _ _ _ 3 (0, 0) (heap_alloc_new wr _)
        have hlG : wr.heap.size < (wr.alloc (Obj.cells #[.int .i64 (gp (J + 1) 0 : Nat), .int .i64 (gp (J + 1) 1 : Nat)] 3)).heap.size := by simp
        have hbA := hb.alloc hb.size (Obj.cells #[.int .i64 (gp (J + 1) 0 : Nat), .int .i64 (gp (J + 1) 1 : Nat)] 3)
        generalize wr.alloc (Obj.cells #[.int .i64 (gp (J + 1) 0 : Nat), .int .i64 (gp (J + 1) 1 : Nat)] 3) = W at *
        generalize wr.heap.size = G at *
        clear hb
        go_loopw [5, 65] (fun s i wi => ∃ k : Nat, k ≤ 2 ∧ i = .int .i64 k ∧ s = .int .i64 (wrap64 (SI n J k)) ∧ Below W.heap.size W wi ∧ Below w.heap.size w wi)
          (fun _ i _ => 2 - (intOf i).toNat)
        case atStart => exact ⟨0, by omega, rfl, rfl, Below.refl _ _, hbA⟩
        case round =>
          obtain ⟨i, hi, rfl, rfl, hbi, hb0⟩ := hrel
          clear hbA
          by_cases hi2 : i < 2
          · by_cases hi0 : i = 0
            · subst hi0
              have hcx := (hbi.cell (p := ⟨G, 0, none⟩) hlG).trans hc0
              have hgb : gp (J + 1) 0 ≤ 1000 := by have := HGB.out; omega
              have HPV := Lib.hid (pent_gp (J + 1) 0 (by omega) (by omega) (by omega))
              have HSI := Lib.hid (show SI n J (0 + 1) = SI n J 0 + tm n (J + 1) 0 from rfl)
              have HT1 := Lib.hid (fun h => tm_pos n J 0 h 1 HSG.out)
              have HT0 := Lib.hid (tm_zero n J 0)
              have HVB := Lib.hid (V_bound yes (n - gp (J + 1) 0) (n - gp (J + 1) 0) (by omega))
              generalize hgg : gp (J + 1) 0 = g at *
              clear hgg
              by_cases hgn : n < g
              · have dg : decide ((n : Int) < g) = true := decide_eq_true (by omega)
                have dg2 : decide (n < g) = true := decide_eq_true (by omega)
                have HE := Lib.hid (HT0.out hgn)
                go_wp2_with fail
                go_roundw
                case rel => exact ⟨0 + 1, by omega, by go_num, by rw [HSI.out, HE.out, Int.add_zero], hbi, hb0⟩
                case measure => simp [intOf]
              · have dg : decide ((n : Int) < g) = false := decide_eq_false (by omega)
                have dg2 : decide (n < g) = false := decide_eq_false (by omega)
                have HE := Lib.hid (HT1.out (by omega))
                have hvb := HVB.out
                have HCS := Lib.hid (fun V => Count_sub n g (by omega) hn V)
                generalize V yes (n - g) (n - g) = m at *
                have hm1 : (m : Int) ≤ 6727090051741041926 := by omega
                go_wp2_with fail
                (with_reducible refine (HCS.out _).mono ?_)
                rintro e w2 ⟨rfl, b2⟩
                have hbi2 := hbi.trans (b2.mono hbi.size)
                have hb02 := hb0.trans (b2.mono hb0.size)
                clear hbi hb0 b2 hcx
                by_cases hg100 : g ≤ 100
                · have d1 : decide ((g : Int) ≤ 100) = true := decide_eq_true (by omega)
                  have d12 : decide (g ≤ 100) = true := decide_eq_true (by omega)
                  have HPC := Lib.hid (fun V => Pent_val g hg100 (-1) (by rw [HPV.out hg100]; have := HPAR.out; omega) V)
                  go_wp2_with fail
                  (with_reducible refine (HPC.out _).mono ?_)
                  rintro e w3 ⟨rfl, b3⟩
                  have hbi3 := hbi2.trans (b3.mono hbi2.size)
                  have hb03 := hb02.trans (b3.mono hb02.size)
                  clear hbi2 hb02 b3
                  go_wp2_with fail
                  go_roundw
                  case rel => exact ⟨0 + 1, by omega, by go_num, by rw [HSI.out, HE.out, ← wrap64_left (SI n J 0)]; simp, hbi3, hb03⟩
                  case measure => simp [intOf]
                · have d1 : decide ((g : Int) ≤ 100) = false := decide_eq_false (by omega)
                  have d12 : decide (g ≤ 100) = false := decide_eq_false (by omega)
                  go_wp2_with fail
                  (with_reducible refine (Pent_not g (by omega) _).mono ?_)
                  rintro e _ ⟨rfl, rfl⟩
                  go_wp2_with fail
                  go_roundw
                  case rel => exact ⟨0 + 1, by omega, by go_num, by rw [HSI.out, HE.out, ← wrap64_left (SI n J 0)]; simp, hbi2, hb02⟩
                  case measure => simp [intOf]
            · obtain rfl : i = 1 := by omega
              have hcx := (hbi.cell (p := ⟨G, 1, none⟩) hlG).trans hc1
              have hgb : gp (J + 1) 1 ≤ 1000 := by have := HGB.out; omega
              have HPV := Lib.hid (pent_gp (J + 1) 1 (by omega) (by omega) (by omega))
              have HSI := Lib.hid (show SI n J (1 + 1) = SI n J 1 + tm n (J + 1) 1 from rfl)
              have HT1 := Lib.hid (fun h => tm_pos n J 1 h 1 HSG.out)
              have HT0 := Lib.hid (tm_zero n J 1)
              have HVB := Lib.hid (V_bound yes (n - gp (J + 1) 1) (n - gp (J + 1) 1) (by omega))
              generalize hgg : gp (J + 1) 1 = g at *
              clear hgg
              by_cases hgn : n < g
              · have dg : decide ((n : Int) < g) = true := decide_eq_true (by omega)
                have dg2 : decide (n < g) = true := decide_eq_true (by omega)
                have HE := Lib.hid (HT0.out hgn)
                go_wp2_with fail
                go_roundw
                case rel => exact ⟨1 + 1, by omega, by go_num, by rw [HSI.out, HE.out, Int.add_zero], hbi, hb0⟩
                case measure => simp [intOf]
              · have dg : decide ((n : Int) < g) = false := decide_eq_false (by omega)
                have dg2 : decide (n < g) = false := decide_eq_false (by omega)
                have HE := Lib.hid (HT1.out (by omega))
                have hvb := HVB.out
                have HCS := Lib.hid (fun V => Count_sub n g (by omega) hn V)
                generalize V yes (n - g) (n - g) = m at *
                have hm1 : (m : Int) ≤ 6727090051741041926 := by omega
                go_wp2_with fail
                (with_reducible refine (HCS.out _).mono ?_)
                rintro e w2 ⟨rfl, b2⟩
                have hbi2 := hbi.trans (b2.mono hbi.size)
                have hb02 := hb0.trans (b2.mono hb0.size)
                clear hbi hb0 b2 hcx
                by_cases hg100 : g ≤ 100
                · have d1 : decide ((g : Int) ≤ 100) = true := decide_eq_true (by omega)
                  have d12 : decide (g ≤ 100) = true := decide_eq_true (by omega)
                  have HPC := Lib.hid (fun V => Pent_val g hg100 (-1) (by rw [HPV.out hg100]; have := HPAR.out; omega) V)
                  go_wp2_with fail
                  (with_reducible refine (HPC.out _).mono ?_)
                  rintro e w3 ⟨rfl, b3⟩
                  have hbi3 := hbi2.trans (b3.mono hbi2.size)
                  have hb03 := hb02.trans (b3.mono hb02.size)
                  clear hbi2 hb02 b3
                  go_wp2_with fail
                  go_roundw
                  case rel => exact ⟨1 + 1, by omega, by go_num, by rw [HSI.out, HE.out, ← wrap64_left (SI n J 1)]; simp, hbi3, hb03⟩
                  case measure => simp [intOf]
                · have d1 : decide ((g : Int) ≤ 100) = false := decide_eq_false (by omega)
                  have d12 : decide (g ≤ 100) = false := decide_eq_false (by omega)
                  go_wp2_with fail
                  (with_reducible refine (Pent_not g (by omega) _).mono ?_)
                  rintro e _ ⟨rfl, rfl⟩
                  go_wp2_with fail
                  go_roundw
                  case rel => exact ⟨1 + 1, by omega, by go_num, by rw [HSI.out, HE.out, ← wrap64_left (SI n J 1)]; simp, hbi2, hb02⟩
                  case measure => simp [intOf]
          · obtain rfl : i = 2 := by omega
            rw [SI_two]
            go_wp2_with fail
            go_roundw
            case rel => exact ⟨J + 1, by omega, by go_num, rfl, hb0⟩
            case measure => simp [intOf]; omega
    · have dj : decide (((J : Int) + 1) * (3 * ((J : Int) + 1) - 1) / 2 ≤ n) = false := decide_eq_false (by rw [E0.out]; omega)
      have hs := SS_stop n J (by omega) 16 hJ
      have hfin : wrap64 (SS n J) = (V yes n n : Nat) := by
        rw [← hs, HEU.out]
        exact IntWalk.wrap64_in _ (by have := HVN.out; omega)
      rw [hfin]
      clear hs hfin hj
      go_wp2_with fail
      (with_reducible refine (awake_any _).mono ?_)
      rintro e w6 ⟨rfl, b6⟩
      go_wp2_with fail
      go_ret
      exact ⟨rfl, hb.trans (b6.mono hb.size)⟩
/-- The walk of the law. -/
theorem partsPentagons_walk (w : World) (n : Int) (_ : -9223372036854775808 ≤ n ∧ n ≤ 9223372036854775807) :
    Calls Try.prog 4 #[.int .i64 n] w fun e w' => e = .returned (.bool true) ∧ Below w.heap.size w w' := by
  by_cases h : n < 0 ∨ 400 < n
  · exact partsPentagons_no n h w
  · obtain ⟨m, rfl⟩ := Int.eq_ofNat_of_zero_le (show 0 ≤ n by omega)
    by_cases h0 : m = 0
    · subst h0; exact partsPentagons_zero w
    · exact partsPentagons_mid m (by omega) (by omega) w
end Go.Proofs.Ytpgpkgnljoedaaa
