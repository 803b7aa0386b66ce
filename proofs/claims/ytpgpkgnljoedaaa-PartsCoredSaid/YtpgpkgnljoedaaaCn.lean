/- Walks of counts, Count and the reference's Count. -/
import Derived.Test.YtpgpkgnljoedaaaLi
import Derived.Test.YtpgpkgnljoedaaaCu
import Derived.Deep.OwnRows
import Derived.RegionTactic
namespace Go.Proofs.Ytpgpkgnljoedaaa
open Go.RowKit

theorem make33 (n : Nat) (h : n ≤ 10000) (w : World) : (Instr.makeSlice 33 (.int .i64 ((n : Int) + 1)) (.int .i64 ((n : Int) + 1))).run Try.prog w = .ok (.slice (some ⟨w.heap.size, 0, none⟩) (n + 1) (n + 1)) (w.alloc (.cells (madeCells #[.int .i64 0] (n + 1)) 3)) := by
  have := run_make_row' 33 3 (.int .i64 0) 8 Try.underlying33 info3 rfl .i64 .i64 (n + 1) (by omega) (by omega) w
  rw [show ((n + 1 : Nat) : Int) = (n : Int) + 1 by omega] at this
  exact this
/-- the row while entry s is reached in the pass of part p + 1 -/
def midR (al : Nat → Bool) (p s j : Nat) : Value := .int .i64 ((if j < s then V al (p + 1) j else V al p j : Nat) : Int)
def fullR (al : Nat → Bool) (p j : Nat) : Value := .int .i64 (V al p j : Nat)
theorem mid_start (al : Nat → Bool) (p j : Nat) : fullR al p j = midR al p (p + 1) j := by
  unfold midR fullR
  by_cases h : j < p + 1
  · rw [if_pos h, V_low al p j h]
  · rw [if_neg h]
theorem mid_end (al : Nat → Bool) (p s j : Nat) (h : j < s) : midR al p s j = fullR al (p + 1) j := by unfold midR fullR; rw [if_pos h]
theorem mid_next (al : Nat → Bool) (p s : Nat) (x : Int) (hx : x = (V al (p + 1) s : Nat)) (j : Nat) : (if j = s then Value.int .i64 x else midR al p s j) = midR al p (s + 1) j := by
  unfold midR
  by_cases h : j = s
  · subst h; rw [if_pos rfl, if_pos (by omega), hx]
  · rw [if_neg h]
    by_cases h2 : j < s
    · rw [if_pos h2, if_pos (by omega)]
    · rw [if_neg h2, if_neg (by omega)]
theorem first_row (al : Nat → Bool) (j : Nat) : (if j = 0 then Value.int .i64 1 else Value.int .i64 0) = fullR al 0 j := by
  unfold fullR V; split <;> rfl
theorem V_add (al : Nat → Bool) (p s : Nat) (h : al (p + 1) = true) (hs : p + 1 ≤ s) : ((V al p s : Nat) : Int) + ((V al (p + 1) (s - (p + 1)) : Nat) : Int) = ((V al (p + 1) s : Nat) : Int) := by
  rw [V_step al p s h hs]; omega
theorem made_first (al : Nat → Bool) (w : World) (n : Nat) : (w.alloc (.cells ((madeCells #[.int .i64 0] (n + 1)).setIfInBounds 0 (.int .i64 1)) 3)).rowIs w.heap.size 3 (n + 1) (fullR al 0) := by
  refine ⟨_, heap_alloc_new w _, by simp [size_madeCells], fun i hi => ?_⟩
  rw [← first_row al i, Array.getElem?_setIfInBounds]
  by_cases h : i = 0
  · subst h; simp [size_madeCells]
  · rw [if_neg (fun e => h e.symm), if_neg h]
    simp [madeCells, hi, Nat.mod_one]
set_option maxHeartbeats 400000 in
theorem f60_any (x : Int) (w : World) : Calls Try.prog 60 #[.int .i64 x] w fun e w' => e = .returned (.bool true) ∧ w = w' := by
  go_enter Try.func60, Try.ntmps60
  go_wp2
  go_ret
  exact ⟨rfl, rfl⟩

set_option maxRecDepth 100000 in
set_option maxHeartbeats 8000000 in
theorem counts60 (n : Nat) (hn : n ≤ 400) (w : World) :
    Calls Try.prog 59 #[.int .i64 n, .func (Fn.func 60) #[] #[]] w fun e w' => e = .returned (.slice (some ⟨w.heap.size, 0, none⟩) (n + 1) (n + 1)) ∧ w'.rowIs w.heap.size 3 (n + 1) (fullR yes n) ∧ Below w.heap.size w w' := by
  have hmk := fun W => make33 n (by omega) W
  have hm0 : (madeCells #[Value.int .i64 0] (n + 1))[0]? = some (.int .i64 0) := by simp [madeCells]
  go_enter Try.func59, Try.ntmps59
  go_wp2_with fail
  have R0 := made_first yes w n
  have B0 := (Below.refl w.heap.size w).alloc (Nat.le_refl _) (.cells ((madeCells #[.int .i64 0] (n + 1)).setIfInBounds 0 (.int .i64 1)) 3)
  clear hmk hm0
  generalize w.alloc (.cells ((madeCells #[.int .i64 0] (n + 1)).setIfInBounds 0 (.int .i64 1)) 3) = W at *
  obtain ⟨B, hB⟩ : ∃ B, B = w.heap.size := ⟨_, rfl⟩
  rw [← hB] at B0
  have HBE := Lib.hid hB
  have hBG : B ≤ w.heap.size := by omega
  have HBG := Lib.hid hBG
  clear hB hBG
  generalize hGe : w.heap.size = G at *
  have HGE := Lib.hid hGe
  clear hGe
  go_loopw [6, 7] (fun x _ wr => ∃ p : Nat, p ≤ n ∧ x = .int .i64 ((p : Int) + 1) ∧ wr.rowIs G 3 (n + 1) (fullR yes p) ∧ Below B w wr)
    (fun x _ _ => n + 2 - (intOf x).toNat)
  case atStart => exact ⟨0, by omega, rfl, R0, B0⟩
  case round =>
    obtain ⟨p, hp, rfl, hrow, hb⟩ := hrel
    clear R0 B0
    by_cases hlt : p < n
    · have dp : decide ((p : Int) + 1 ≤ n) = true := decide_eq_true (by omega)
      have dp2 : decide (p + 1 ≤ n) = true := decide_eq_true (by omega)

      have HAL := Lib.hid (show yes (p + 1) = true from rfl)
      go_wp2_with fail
      refine (f60_any _ _).mono ?_
      rintro e _ ⟨rfl, rfl⟩
      go_wp2_with fail
      obtain ⟨wo, rfl⟩ : ∃ wo : World, wo = wr := ⟨_, rfl⟩
      go_loopw [7] (fun x wi => ∃ s : Nat, p + 1 ≤ s ∧ s ≤ n + 1 ∧ x = .int .i64 s ∧ wi.rowIs G 3 (n + 1) (midR yes p s) ∧ Below B w wi)
        (fun x _ => n + 2 - (intOf x).toNat)
      case atStart => exact ⟨p + 1, Nat.le_refl _, by omega, by go_num, hrow.congr (fun j _ => mid_start yes p j), hb⟩
      case round =>
        obtain ⟨s, hs1, hs2, rfl, hrow2, hb2⟩ := hrel
        clear hrow hb
        by_cases hsl : s < n + 1
        · have c1 := hrow2.cell hsl
          have c2 := hrow2.cell (i := s - (p + 1)) (by omega)
          have hfr := hrow2.frozen
          have hlg := hrow2.lt
          have HC1 := Lib.hid c1
          have HC2 := Lib.hid c2
          clear c1 c2
          have c1 : wr.cell? ⟨G, s, none⟩ = some (.int .i64 (V yes p s : Nat)) := by rw [HC1.out]; unfold midR; rw [if_neg (by omega)]
          have c2 : wr.cell? ⟨G, s - (p + 1), none⟩ = some (.int .i64 (V yes (p + 1) (s - (p + 1)) : Nat)) := by rw [HC2.out]; unfold midR; rw [if_pos (by omega)]
          have HA := Lib.hid (V_add yes p s HAL.out hs1)
          have hbd : ((V yes p s : Nat) : Int) + ((V yes (p + 1) (s - (p + 1)) : Nat) : Int) ≤ 6727090051741041926 := by
            rw [HA.out]; have := V_bound yes (p + 1) s (by omega); omega
          generalize V yes p s = a at *
          generalize V yes (p + 1) (s - (p + 1)) = b at *
          have hkt : ((s : Int) - ((p : Int) + 1)).toNat = s - (p + 1) := by omega
          have hkn : 0 ≤ (s : Int) - ((p : Int) + 1) := by omega
          have hkw : IntKind.i64.wrap ((s : Int) - ((p : Int) + 1)) = (s : Int) - ((p : Int) + 1) := IntWalk.i64_in _ (by omega)
          have haw : IntKind.i64.wrap ((a : Int) + b) = (a : Int) + b := IntWalk.i64_in _ (by omega)
          have k1 : (s : Int) < (n : Int) + 1 := by omega
          have k2 : (s : Int) - ((p : Int) + 1) < (n : Int) + 1 := by omega
          have dl : decide ((s : Int) ≤ n) = true := decide_eq_true (by omega)
          have dl2 : decide (s ≤ n) = true := decide_eq_true (by omega)
          go_wp2_with fail
          go_region
          all_goals
            go_wp2_with fail
            go_roundw
            case rel => exact ⟨s + 1, by omega, by omega, by go_num, ((hrow2.drew.set s _).congr (fun j _ => mid_next yes p s _ HA.out j)), (below_drew hb2).setCell HBG.out _⟩
            case measure => simp [intOf]; omega
        · obtain rfl : s = n + 1 := by omega
          have dl : decide (((n + 1 : Nat) : Int) ≤ n) = false := decide_eq_false (by omega)
          have dl2 : decide (n + 1 ≤ n) = false := decide_eq_false (by omega)
          go_wp2_with fail
          go_roundw
          case rel => exact ⟨p + 1, by omega, by go_num, hrow2.congr (fun j hj => mid_end yes p _ j hj), hb2⟩
          case measure => simp [intOf]; omega
    · obtain rfl : p = n := by omega
      have dp : decide ((p : Int) + 1 ≤ p) = false := decide_eq_false (by omega)
      have dp2 : decide (p + 1 ≤ p) = false := decide_eq_false (by omega)
      go_wp2_with fail
      go_ret
      have e1 := HGE.out
      have e2 := HBE.out
      rw [e2] at hb
      rw [e1]
      exact ⟨rfl, hrow, hb⟩

set_option maxRecDepth 100000 in
set_option maxHeartbeats 8000000 in
theorem rCount_any (n : Nat) (hn : n ≤ 400) (w : World) :
    Calls Try.prog 22 #[.int .i64 n] w fun e w' => e = .returned (.int .i64 (V yes n n : Nat)) ∧ Below w.heap.size w w' := by
  have hmk := fun W => make33 n (by omega) W
  have hm0 : (madeCells #[Value.int .i64 0] (n + 1))[0]? = some (.int .i64 0) := by simp [madeCells]
  go_enter Try.func22, Try.ntmps22
  go_wp2_with fail
  have R0 := made_first yes w n
  have B0 := (Below.refl w.heap.size w).alloc (Nat.le_refl _) (.cells ((madeCells #[.int .i64 0] (n + 1)).setIfInBounds 0 (.int .i64 1)) 3)
  clear hmk hm0
  generalize w.alloc (.cells ((madeCells #[.int .i64 0] (n + 1)).setIfInBounds 0 (.int .i64 1)) 3) = W at *
  obtain ⟨B, hB⟩ : ∃ B, B = w.heap.size := ⟨_, rfl⟩
  rw [← hB] at B0
  have HBE := Lib.hid hB
  have hBG : B ≤ w.heap.size := by omega
  have HBG := Lib.hid hBG
  clear hB hBG
  generalize hGe : w.heap.size = G at *
  have HGE := Lib.hid hGe
  clear hGe
  go_loopw [4, 5] (fun x _ wr => ∃ p : Nat, p ≤ n ∧ x = .int .i64 ((p : Int) + 1) ∧ wr.rowIs G 3 (n + 1) (fullR yes p) ∧ Below B w wr)
    (fun x _ _ => n + 2 - (intOf x).toNat)
  case atStart => exact ⟨0, by omega, rfl, R0, B0⟩
  case round =>
    obtain ⟨p, hp, rfl, hrow, hb⟩ := hrel
    clear R0 B0
    by_cases hlt : p < n
    · have dp : decide ((p : Int) + 1 ≤ n) = true := decide_eq_true (by omega)
      have dp2 : decide (p + 1 ≤ n) = true := decide_eq_true (by omega)

      have HAL := Lib.hid (show yes (p + 1) = true from rfl)
      go_wp2_with fail
      obtain ⟨wo, rfl⟩ : ∃ wo : World, wo = wr := ⟨_, rfl⟩
      go_loopw [5] (fun x wi => ∃ s : Nat, p + 1 ≤ s ∧ s ≤ n + 1 ∧ x = .int .i64 s ∧ wi.rowIs G 3 (n + 1) (midR yes p s) ∧ Below B w wi)
        (fun x _ => n + 2 - (intOf x).toNat)
      case atStart => exact ⟨p + 1, Nat.le_refl _, by omega, by go_num, hrow.congr (fun j _ => mid_start yes p j), hb⟩
      case round =>
        obtain ⟨s, hs1, hs2, rfl, hrow2, hb2⟩ := hrel
        clear hrow hb
        by_cases hsl : s < n + 1
        · have c1 := hrow2.cell hsl
          have c2 := hrow2.cell (i := s - (p + 1)) (by omega)
          have hfr := hrow2.frozen
          have hlg := hrow2.lt
          have HC1 := Lib.hid c1
          have HC2 := Lib.hid c2
          clear c1 c2
          have c1 : wr.cell? ⟨G, s, none⟩ = some (.int .i64 (V yes p s : Nat)) := by rw [HC1.out]; unfold midR; rw [if_neg (by omega)]
          have c2 : wr.cell? ⟨G, s - (p + 1), none⟩ = some (.int .i64 (V yes (p + 1) (s - (p + 1)) : Nat)) := by rw [HC2.out]; unfold midR; rw [if_pos (by omega)]
          have HA := Lib.hid (V_add yes p s HAL.out hs1)
          have hbd : ((V yes p s : Nat) : Int) + ((V yes (p + 1) (s - (p + 1)) : Nat) : Int) ≤ 6727090051741041926 := by
            rw [HA.out]; have := V_bound yes (p + 1) s (by omega); omega
          generalize V yes p s = a at *
          generalize V yes (p + 1) (s - (p + 1)) = b at *
          have hkt : ((s : Int) - ((p : Int) + 1)).toNat = s - (p + 1) := by omega
          have hkn : 0 ≤ (s : Int) - ((p : Int) + 1) := by omega
          have hkw : IntKind.i64.wrap ((s : Int) - ((p : Int) + 1)) = (s : Int) - ((p : Int) + 1) := IntWalk.i64_in _ (by omega)
          have haw : IntKind.i64.wrap ((a : Int) + b) = (a : Int) + b := IntWalk.i64_in _ (by omega)
          have k1 : (s : Int) < (n : Int) + 1 := by omega
          have k2 : (s : Int) - ((p : Int) + 1) < (n : Int) + 1 := by omega
          have dl : decide ((s : Int) ≤ n) = true := decide_eq_true (by omega)
          have dl2 : decide (s ≤ n) = true := decide_eq_true (by omega)
          go_wp2_with fail
          go_region
          all_goals
            go_wp2_with fail
            go_roundw
            case rel => exact ⟨s + 1, by omega, by omega, by go_num, ((hrow2.drew.set s _).congr (fun j _ => mid_next yes p s _ HA.out j)), (below_drew hb2).setCell HBG.out _⟩
            case measure => simp [intOf]; omega
        · obtain rfl : s = n + 1 := by omega
          have dl : decide (((n + 1 : Nat) : Int) ≤ n) = false := decide_eq_false (by omega)
          have dl2 : decide (n + 1 ≤ n) = false := decide_eq_false (by omega)
          go_wp2_with fail
          go_roundw
          case rel => exact ⟨p + 1, by omega, by go_num, hrow2.congr (fun j hj => mid_end yes p _ j hj), hb2⟩
          case measure => simp [intOf]; omega
    · obtain rfl : p = n := by omega
      have dp : decide ((p : Int) + 1 ≤ p) = false := decide_eq_false (by omega)
      have dp2 : decide (p + 1 ≤ p) = false := decide_eq_false (by omega)
      have cn := hrow.cell (i := p) (by omega)
      unfold fullR at cn
      go_wp2_with fail
      go_ret
      have e1 := HGE.out
      have e2 := HBE.out
      rw [e2] at hb
      rw [e1]
      exact ⟨rfl, hb⟩

set_option maxHeartbeats 2000000 in
theorem Count_ok (n : Nat) (hn : n ≤ 400) (w : World) :
    Calls Try.prog 18 #[.int .i64 n] w fun e w' => e = .returned (.tuple #[.int .i64 (V yes n n : Nat), .int .i64 0]) ∧ Below w.heap.size w w' := by
  have d1 : decide (400 < n) = false := decide_eq_false (by omega)
  go_enter Try.func18, Try.ntmps18
  go_wp2_with fail
  refine (counts60 n hn _).mono ?_
  rintro e w1 ⟨rfl, hrow, hb⟩
  have cn := hrow.cell (i := n) (by omega)
  unfold fullR at cn
  clear hrow
  go_wp2_with fail
  go_ret2
  exact ⟨rfl, hb⟩
set_option maxHeartbeats 1000000 in
theorem Count_no (n : Int) (hn : n < 0 ∨ 400 < n) (w : World) :
    Calls Try.prog 18 #[.int .i64 n] w fun e w' => e = .returned (.tuple #[.int .i64 0, .int .i64 2]) ∧ w = w' := by
  by_cases h0 : n < 0
  · have d0 : decide (n < 0) = true := decide_eq_true h0
    clear hn
    go_enter Try.func18, Try.ntmps18
    go_wp2_with fail
    go_ret2
    exact ⟨rfl, rfl⟩
  · have d0 : decide (n < 0) = false := decide_eq_false h0
    have d1 : decide (400 < n) = true := decide_eq_true (by omega)
    clear hn
    go_enter Try.func18, Try.ntmps18
    go_wp2_with fail
    go_ret2
    exact ⟨rfl, rfl⟩
end Go.Proofs.Ytpgpkgnljoedaaa
