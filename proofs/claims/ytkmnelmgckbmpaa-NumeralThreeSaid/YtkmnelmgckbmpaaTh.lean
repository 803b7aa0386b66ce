/- NumeralThree: the walk. -/
import Derived.Test.YtkmnelmgckbmpaaGl
import Derived.Deep.RegionHeld3
import Derived.Deep.RegionWith
import Derived.Deep.DrawnRows
import Derived.BigQuiet
import Derived.StillTailTactics
namespace Go.Proofs.Ytkmnelmgckbmpaa
open Go.RowKit
attribute [local go_sem ↓] Go.wp_at_zero Go.wp_at_succ
attribute [local irreducible] Go.wpStill
/-- what the first k gaps cover, and how many they are -/
def lng (L : List (Nat × Nat)) (k : Nat) : Nat := ((L.take k).map fun x => x.1 * x.2).sum
def cnk (L : List (Nat × Nat)) (k : Nat) : Nat := ((L.take k).map fun x => x.2).sum
theorem lng_succ (L : List (Nat × Nat)) (k : Nat) (h : k < L.length) : lng L (k + 1) = lng L k + L[k].1 * L[k].2 := by
  unfold lng
  rw [List.take_succ_eq_append_getElem h, List.map_append, List.sum_append]
  simp
theorem cnk_succ (L : List (Nat × Nat)) (k : Nat) (h : k < L.length) : cnk L (k + 1) = cnk L k + L[k].2 := by
  unfold cnk
  rw [List.take_succ_eq_append_getElem h, List.map_append, List.sum_append]
  simp
theorem lng_all (L : List (Nat × Nat)) : lng L L.length = (L.map fun x => x.1 * x.2).sum := by unfold lng; rw [List.take_length]
theorem cnk_all (L : List (Nat × Nat)) : cnk L L.length = (L.map fun x => x.2).sum := by unfold cnk; rw [List.take_length]
theorem sum_take_le (f : Nat × Nat → Nat) (L : List (Nat × Nat)) (k : Nat) : ((L.take k).map f).sum ≤ (L.map f).sum := by
  conv => rhs; rw [← List.take_append_drop k L, List.map_append, List.sum_append]
  omega
theorem box29 (w : World) (a b : Int) : (w.alloc (.cells #[.int .i64 a, .int .i64 b] 29)).cell? ⟨w.heap.size, 0, none⟩ = some (.int .i64 a) ∧ (w.alloc (.cells #[.int .i64 a, .int .i64 b] 29)).cell? ⟨w.heap.size, 1, none⟩ = some (.int .i64 b) := by
  have h := heap_alloc_new w (.cells #[.int .i64 a, .int .i64 b] 29)
  constructor <;> (unfold World.cell?; rw [h]; rfl)
set_option maxRecDepth 100000 in
set_option maxHeartbeats 8000000 in
theorem numeralThree_yes (p m n : Nat) (h1 : 2 ≤ m) (h2 : m ≤ 1000) (h3 : 1 ≤ p) (h4 : p < m) (h5 : 1 ≤ n) (h6 : n ≤ m) (h7 : Nat.gcd p m = 1) (w : World) :
    Calls Try.prog 4 #[.int .i64 p, .int .i64 m, .int .i64 n] w fun e w' => e = .returned (.bool true) ∧ Below w.heap.size w w' := by
  have HA := Lib.hid (fun W => Gaps_yes p m n h1 h2 h3 h4 h5 h6 h7 W)
  have hp := gapL_pos (show 0 < m by omega) h7 h5 h6
  have HT := Lib.hid (three_of (show 0 < m by omega) h7 h5 h6)
  generalize gapL m (gaps m (pS p m n)) = L at *
  have hl3 := HT.out.len
  have HLM := Lib.hid (fun k => Nat.le_trans (sum_take_le (fun x => x.1 * x.2) L k) (Nat.le_of_eq HT.out.long))
  have HCM := Lib.hid (fun k => Nat.le_trans (sum_take_le (fun x => x.2) L k) (Nat.le_of_eq HT.out.cnt))
  clear h7
  go_enter Try.func4, Try.ntmps4
  go_wp2_with fail
  with_reducible refine (HA.out _).mono ?_
  rintro e w1 ⟨v, rfl, hrd, hb1⟩
  obtain ⟨g, c1, rfl, hg1, hc1⟩ := id hrd
  have HCE := Lib.hid hc1
  have HB1 := Lib.hid hb1
  have hs1 := hb1.size
  clear hrd hb1 hc1
  go_wp2_with fail
  go_loopw [29, 9, 10] (fun i lv cv wr => ∃ k : Nat, k ≤ L.length ∧ i = .int .i64 k ∧ lv = .int .i64 (lng L k) ∧ cv = .int .i64 (cnk L k) ∧ Below w1.heap.size w1 wr) (fun i _ _ _ => L.length - (intOf i).toNat)
  case atStart => exact ⟨0, Nat.zero_le _, rfl, rfl, rfl, Below.refl _ _⟩
  case round =>
    obtain ⟨k, hk, rfl, rfl, rfl, hb⟩ := hrel
    have hs := hb.size
    by_cases hkl : k < L.length
    · have c0 : decide ((k : Int) < (L.length : Int)) = true := decide_eq_true (by omega)
      have hLk : L[k]? = some L[k] := List.getElem?_eq_getElem hkl
      have hq0 := (hb.cell (p := ⟨g, k * 2, none⟩) hg1).trans (HCE.out k _ 0 (.int .i64 L[k].1) hLk rfl)
      have hq1 := (hb.cell (p := ⟨g, k * 2 + 1, none⟩) hg1).trans (HCE.out k _ 1 (.int .i64 L[k].2) hLk rfl)
      have hpos := HT.out.pos _ (List.getElem_mem hkl)
      have hlk := HLM.out (k + 1)
      have hck := HCM.out (k + 1)
      change lng L (k + 1) ≤ m at hlk
      change cnk L (k + 1) ≤ n at hck
      have hl1 := lng_succ L k hkl
      have hc1 := cnk_succ L k hkl
      have HL1 := Lib.hid hl1
      have HC1 := Lib.hid hc1
      rw [hl1] at hlk
      rw [hc1] at hck
      clear hl1 hc1
      have hmul : (L[k].1 : Int) * (L[k].2 : Int) = ((L[k].1 * L[k].2 : Nat) : Int) := by rw [Int.natCast_mul]
      have hm1 : (lng L k : Int) + (L[k].1 : Int) * (L[k].2 : Int) ≤ 1000 := by rw [hmul]; omega
      have hm0 : 0 ≤ (L[k].1 : Int) * (L[k].2 : Int) := by rw [hmul]; omega
      have HRELL := Lib.hid (show (lng L (k + 1) : Int) = (lng L k : Int) + (L[k].1 : Int) * (L[k].2 : Int) by rw [HL1.out, hmul]; omega)
      have HRELC := Lib.hid (show (cnk L (k + 1) : Int) = (cnk L k : Int) + (L[k].2 : Int) by rw [HC1.out]; omega)
      have d1 : decide ((L[k].1 : Int) < 1) = false := decide_eq_false (by omega)
      have d2 : decide ((L[k].2 : Int) < 1) = false := decide_eq_false (by omega)
      have hcb1 : (cnk L k : Int) + (L[k].2 : Int) ≤ 1000 := by omega
      have hpv : ∀ (hk0 : 0 < k), (L[k - 1]'(by omega)).1 < L[k].1 := fun hk0 => List.pairwise_iff_getElem.1 HT.out.lt (k - 1) k (by omega) hkl (by omega)
      by_cases hk0 : 0 < k
      · obtain ⟨k', rfl⟩ : ∃ k', k = k' + 1 := ⟨k - 1, by omega⟩
        have hpv' := hpv (by omega)
        simp only [Nat.add_sub_cancel] at hpv'
        have hk'l : k' < L.length := by omega
        have hr0 := (hb.cell (p := ⟨g, k' * 2, none⟩) hg1).trans (HCE.out k' _ 0 (.int .i64 L[k'].1) (List.getElem?_eq_getElem hk'l) rfl)
        clear hpv hmul hLk
        generalize L[k' + 1] = x at *
        generalize L[k'] = y at *
        obtain ⟨x1, x2⟩ := x
        obtain ⟨y1, y2⟩ := y
        simp only at *
        have d3 : decide (x1 ≤ y1) = false := decide_eq_false (by omega)
        have c0' : decide ((k' : Int) + 1 < (L.length : Int)) = true := decide_eq_true (by omega)
        have d4 : decide ((0 : Int) < (k' : Int) + 1) = true := decide_eq_true (by omega)
        have HBA := Lib.hid (hb.alloc hs (.cells #[.int .i64 x1, .int .i64 x2] 29))
        have hx0 := box29 wr x1 x2
        obtain ⟨hx0, hx1⟩ := hx0
        have hal := ((Below.refl wr.heap.size wr).alloc (Nat.le_refl _) (.cells #[.int .i64 x1, .int .i64 x2] 29))
        have hr0' := (hal.cell (p := ⟨g, k' * 2, none⟩) (by show g < wr.heap.size; omega)).trans hr0
        clear hal
        have wk : IntKind.i64.wrap ((k' : Int) + 1 - 1) = k' := by rw [show (k' : Int) + 1 - 1 = k' by omega]; exact IntWalk.i64_in _ (by omega)
        have wk2 : IntKind.i64.wrap (k' : Int) = k' := IntWalk.i64_in _ (by omega)
        go_wp2_with fail
        go_quiet (fail)
        go_wp2_with fail
        go_roundw
        case rel => exact ⟨k' + 1 + 1, by omega, by go_num, by rw [HRELL.out], by rw [HRELC.out], below_drewN HBA.out _⟩
        case measure => simp [intOf]; omega
      · have hk0 : k = 0 := by omega
        subst hk0
        clear hpv hmul hLk
        generalize L[0] = x at *
        obtain ⟨x1, x2⟩ := x
        simp only at *
        have HBA := Lib.hid (hb.alloc hs (.cells #[.int .i64 x1, .int .i64 x2] 29))
        obtain ⟨hx0, hx1⟩ := box29 wr x1 x2
        go_wp2_with fail
        go_quiet (fail)
        go_wp2_with fail
        go_roundw
        case rel => exact ⟨1, by omega, by go_num, by rw [HRELL.out], by rw [HRELC.out], below_drewN HBA.out _⟩
        case measure => simp [intOf]; omega
    · have hkl : k = L.length := by omega
      have e1 : lng L k = m := by rw [hkl, lng_all]; exact HT.out.long
      have e2 : cnk L k = n := by rw [hkl, cnk_all]; exact HT.out.cnt
      rw [e1, e2]
      by_cases h3 : L.length = 3
      · have hr0 := (hb.cell (p := ⟨g, 0, none⟩) hg1).trans (HCE.out 0 _ 0 (.int .i64 (L[0]'(by omega)).1) (List.getElem?_eq_getElem (by omega)) rfl)
        have hr1 := (hb.cell (p := ⟨g, 2, none⟩) hg1).trans (HCE.out 1 _ 0 (.int .i64 (L[1]'(by omega)).1) (List.getElem?_eq_getElem (by omega)) rfl)
        have hr2 := (hb.cell (p := ⟨g, 4, none⟩) hg1).trans (HCE.out 2 _ 0 (.int .i64 (L[2]'(by omega)).1) (List.getElem?_eq_getElem (by omega)) rfl)
        have hsum := HT.out.sum h3
        have hp0 := HT.out.pos _ (List.getElem_mem (show 0 < L.length by omega))
        have hp1 := HT.out.pos _ (List.getElem_mem (show 1 < L.length by omega))
        generalize L[0] = x0 at *
        generalize L[1] = x1 at *
        generalize L[2] = x2 at *
        obtain ⟨a0, b0⟩ := x0
        obtain ⟨a1, b1⟩ := x1
        obtain ⟨a2, b2⟩ := x2
        simp only at *
        subst hsum
        rw [h3]
        have hkk : k = 3 := by omega
        subst hkk
        clear hkl HLM HCM hl3 hk HA e1 e2 hp
        have HB := Lib.hid hb
        have HAW := Lib.hid awake_any
        have ws : IntKind.i64.wrap ((a0 : Int) + a1) = a0 + a1 := IntWalk.i64_in _ (by omega)
        go_wp2_with fail
        go_region_held3 (fun w' => (w'.cell? ⟨g, 0, none⟩ = some (.int .i64 a0) ∧ w'.cell? ⟨g, 2, none⟩ = some (.int .i64 a1) ∧ w'.cell? ⟨g, 4, none⟩ = some (.int .i64 (a0 + a1 : Nat))) ∧ Below w1.heap.size w1 w')
          (first
            | exact ⟨⟨hr0, hr1, hr2⟩, HB.out.drew⟩
            | exact (fun HZ : Below wr.heap.size wr _ => ⟨⟨(HZ.cell (p := ⟨g, 0, none⟩) (by show g < wr.heap.size; omega)).trans hr0, (HZ.cell (p := ⟨g, 2, none⟩) (by show g < wr.heap.size; omega)).trans hr1, (HZ.cell (p := ⟨g, 4, none⟩) (by show g < wr.heap.size; omega)).trans hr2⟩, HB.out.trans (HZ.mono hs)⟩) (((Below.refl _ _).drew).trans hb5))
          (first
            | (go_at_call 7; ((with_reducible refine (HAW.out _).mono ?_); rintro e w5 ⟨rfl, hb5⟩)))
        have hh : (w5.cell? ⟨g, 0, none⟩ = some (.int .i64 a0) ∧ w5.cell? ⟨g, 2, none⟩ = some (.int .i64 a1) ∧ w5.cell? ⟨g, 4, none⟩ = some (.int .i64 (a0 + a1 : Nat))) ∧ Below w1.heap.size w1 w5 := by assumption
        have hf := HB1.out.trans (hh.2.mono hs1)
        go_wp2_with fail
        go_ret
        exact ⟨rfl, hf⟩
      · have hc0 : L.length = 1 ∨ L.length = 2 := by omega
        rcases hc0 with hh1 | hh1
        · have hkk : k = 1 := by omega
          subst hkk
          rw [hh1]
          clear hkl HLM HCM hl3 hk HA e1 e2 hp h3 HT HCE hh1 hg1
          have HB := Lib.hid hb
          clear hb hs
          have q0 : decide (((1 : Nat) : Int) ≤ 3) = true := rfl
          have q1 : decide (((1 : Nat) : Int) < 3) = true := rfl
          have q2 : decide ((1 : Int) ≤ 3) = true := rfl
          have q3 : decide ((1 : Int) < 3) = true := rfl
          have q4 : ((1 : Nat) : Int) = 1 := rfl
          go_wp2_with fail
          go_still_tail 35, (by kernel_rfl)
          change wpList _ _ _ _ _ wr.drew
          have HB2 := Lib.hid (HB1.out.trans (HB.out.drew.mono hs1))
          generalize wr.drew = w2 at *
          go_wp2_with fail
          with_reducible refine (awake_any _).mono ?_
          rintro e w5 ⟨rfl, hb5⟩
          have HB5 := Lib.hid (HB2.out.trans (hb5.mono HB2.out.size))
          clear hb5
          go_wp2_with fail
          go_ret
          exact ⟨rfl, HB5.out⟩
        · have hkk : k = 2 := by omega
          subst hkk
          rw [hh1]
          clear hkl HLM HCM hl3 hk HA e1 e2 hp h3 HT HCE hh1 hg1
          have HB := Lib.hid hb
          clear hb hs
          have q0 : decide (((2 : Nat) : Int) ≤ 3) = true := rfl
          have q1 : decide (((2 : Nat) : Int) < 3) = true := rfl
          have q2 : decide ((2 : Int) ≤ 3) = true := rfl
          have q3 : decide ((2 : Int) < 3) = true := rfl
          have q4 : ((2 : Nat) : Int) = 2 := rfl
          go_wp2_with fail
          go_still_tail 35, (by kernel_rfl)
          change wpList _ _ _ _ _ wr.drew
          have HB2 := Lib.hid (HB1.out.trans (HB.out.drew.mono hs1))
          generalize wr.drew = w2 at *
          go_wp2_with fail
          with_reducible refine (awake_any _).mono ?_
          rintro e w5 ⟨rfl, hb5⟩
          have HB5 := Lib.hid (HB2.out.trans (hb5.mono HB2.out.size))
          clear hb5
          go_wp2_with fail
          go_ret
          exact ⟨rfl, HB5.out⟩
set_option maxRecDepth 100000 in
set_option maxHeartbeats 4000000 in
theorem numeralThree_no (p m n : Int) (h : ¬ Pts p m n) (w : World) :
    Calls Try.prog 4 #[.int .i64 p, .int .i64 m, .int .i64 n] w fun e w' => e = .returned (.bool true) ∧ Below w.heap.size w w' := by
  have HA := Lib.hid (fun W => Gaps_no p m n h W)
  clear h
  go_enter Try.func4, Try.ntmps4
  go_wp2_with fail
  with_reducible refine (HA.out _).mono ?_
  rintro e w1 ⟨rfl, hb1⟩
  have HB1 := Lib.hid hb1
  clear hb1
  go_wp2_with fail
  with_reducible refine (awake_any _).mono ?_
  rintro e w5 ⟨rfl, hb5⟩
  have HB5 := Lib.hid (HB1.out.trans (hb5.mono HB1.out.size))
  clear hb5
  go_wp2_with fail
  go_ret
  exact ⟨rfl, HB5.out⟩
/-- The walk of NumeralThree. -/
theorem numeralThree_walk (w : World) (p : Int) (_ : -9223372036854775808 ≤ p ∧ p ≤ 9223372036854775807) (m : Int) (_ : -9223372036854775808 ≤ m ∧ m ≤ 9223372036854775807) (n : Int) (_ : -9223372036854775808 ≤ n ∧ n ≤ 9223372036854775807) :
    Calls Try.prog 4 #[.int .i64 p, .int .i64 m, .int .i64 n] w fun e w' => e = .returned (.bool true) ∧ Below w.heap.size w w' := by
  by_cases h : Pts p m n
  · obtain ⟨p', m', n', rfl, rfl, rfl, a1, a2, a3, a4, a5, a6, a7⟩ := h.nat
    exact numeralThree_yes p' m' n' a1 a2 a3 a4 a5 a6 a7 w
  · exact numeralThree_no p m n h w
end Go.Proofs.Ytkmnelmgckbmpaa
