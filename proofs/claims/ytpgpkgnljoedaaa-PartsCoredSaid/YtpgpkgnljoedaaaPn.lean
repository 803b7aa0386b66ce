/- Walks of Pentagonal, of the program and of the reference. -/
import Derived.Test.YtpgpkgnljoedaaaCn
namespace Go.Proofs.Ytpgpkgnljoedaaa
open Go.RowKit

/-- even less odd ways to make j from different parts up to p -/
def En : Nat → Nat → Int
  | 0, j => if j = 0 then 1 else 0
  | p + 1, j => if p + 1 ≤ j then En p j - En p (j - (p + 1)) else En p j
theorem En_low (p j : Nat) (h : j < p + 1) : En (p + 1) j = En p j := by rw [En, if_neg (by omega)]
theorem En_step (p j : Nat) (h : p + 1 ≤ j) : En (p + 1) j = En p j - En p (j - (p + 1)) := by rw [En, if_pos h]
theorem En_bd (p : Nat) : ∀ j, - ((V yes p j : Nat) : Int) ≤ En p j ∧ En p j ≤ (V yes p j : Nat) := by
  induction p with
  | zero => intro j; simp only [En, V]; split <;> omega
  | succ p ih =>
    intro j
    by_cases h : p + 1 ≤ j
    · have h1 := ih j
      have h2 := ih (j - (p + 1))
      have h3 := V_step yes p j rfl h
      have h4 := V_le_succ yes p (j - (p + 1))
      rw [En_step p j h]
      omega
    · have h1 := ih j
      have h4 := V_le_succ yes p j
      rw [En_low p j (by omega)]
      omega
theorem En_le (p j : Nat) (h : j ≤ 400) : -6727090051741041926 ≤ En p j ∧ En p j ≤ 6727090051741041926 := by
  have h1 := En_bd p j
  have h2 := V_bound yes p j h
  omega
def midE (p s j : Nat) : Value := .int .i64 (if s < j then En (p + 1) j else En p j)
def fullE (p j : Nat) : Value := .int .i64 (En p j)
theorem midE_start (p n j : Nat) (h : j ≤ n) : fullE p j = midE p n j := by unfold midE fullE; rw [if_neg (by omega)]
theorem midE_end (p j : Nat) : midE p p j = fullE (p + 1) j := by
  unfold midE fullE
  by_cases h : p < j
  · rw [if_pos h]
  · rw [if_neg h, En_low p j (by omega)]
theorem midE_next (p s : Nat) (hs : p + 1 ≤ s) (x : Int) (hx : x = En (p + 1) s) (j : Nat) : (if j = s then Value.int .i64 x else midE p s j) = midE p (s - 1) j := by
  unfold midE
  by_cases h : j = s
  · subst h; rw [if_pos rfl, if_pos (by omega), hx]
  · rw [if_neg h]
    by_cases h2 : s < j
    · rw [if_pos h2, if_pos (by omega)]
    · rw [if_neg h2, if_neg (by omega)]
theorem firstE (j : Nat) : fullR yes 0 j = fullE 0 j := by
  unfold fullR fullE V En; split <;> rfl

set_option maxRecDepth 100000 in
set_option maxHeartbeats 8000000 in
theorem Pentagonal_ok (n : Nat) (hn : n ≤ 100) (w : World) :
    Calls Try.prog 23 #[.int .i64 n] w fun e w' => e = .returned (.tuple #[.int .i64 (En n n), .int .i64 0]) ∧ Below w.heap.size w w' := by
  have hmk := fun W => make33 n (by omega) W
  have hm0 : (madeCells #[Value.int .i64 0] (n + 1))[0]? = some (.int .i64 0) := by simp [madeCells]
  have d1 : decide (100 < n) = false := decide_eq_false (by omega)
  go_enter Try.func23, Try.ntmps23
  go_wp2_with fail
  have R0 := made_first yes w n
  have B0 := (Below.refl w.heap.size w).alloc (Nat.le_refl _) (.cells ((madeCells #[.int .i64 0] (n + 1)).setIfInBounds 0 (.int .i64 1)) 3)
  clear hmk hm0
  generalize w.alloc (.cells ((madeCells #[.int .i64 0] (n + 1)).setIfInBounds 0 (.int .i64 1)) 3) = W at *
  obtain ⟨B, hB⟩ : ∃ B, B = w.heap.size := ⟨_, rfl⟩
  rw [← hB] at B0
  have HBE := Lib.hid hB
  have hBG : B ≤ w.heap.size := by omega
  have HBG := Lib.hid hBG
  clear hB hBG
  generalize hGe : w.heap.size = G at *
  have HGE := Lib.hid hGe
  clear hGe
  go_loopw [5, 6] (fun x _ wr => ∃ p : Nat, p ≤ n ∧ x = .int .i64 ((p : Int) + 1) ∧ wr.rowIs G 3 (n + 1) (fullE p) ∧ Below B w wr)
    (fun x _ _ => n + 2 - (intOf x).toNat)
  case atStart => exact ⟨0, by omega, rfl, R0.congr (fun j _ => firstE j), B0⟩
  case round =>
    obtain ⟨p, hp, rfl, hrow, hb⟩ := hrel
    clear R0 B0
    by_cases hlt : p < n
    · have dp : decide ((p : Int) + 1 ≤ n) = true := decide_eq_true (by omega)
      have dp2 : decide (p + 1 ≤ n) = true := decide_eq_true (by omega)
      go_wp2_with fail
      obtain ⟨wo, rfl⟩ : ∃ wo : World, wo = wr := ⟨_, rfl⟩
      go_loopw [6] (fun x wi => ∃ s : Nat, p ≤ s ∧ s ≤ n ∧ x = .int .i64 s ∧ wi.rowIs G 3 (n + 1) (midE p s) ∧ Below B w wi)
        (fun x _ => (intOf x).toNat)
      case atStart => exact ⟨n, by omega, Nat.le_refl _, rfl, hrow.congr (fun j hj => midE_start p n j (by omega)), hb⟩
      case round =>
        obtain ⟨s, hs1, hs2, rfl, hrow2, hb2⟩ := hrel
        clear hrow hb
        by_cases hsl : p + 1 ≤ s
        · have c1 := hrow2.cell (i := s) (by omega)
          have c2 := hrow2.cell (i := s - (p + 1)) (by omega)
          have hfr := hrow2.frozen
          have hlg := hrow2.lt
          have HC1 := Lib.hid c1
          have HC2 := Lib.hid c2
          clear c1 c2
          have c1 : wr.cell? ⟨G, s, none⟩ = some (.int .i64 (En p s)) := by rw [HC1.out]; unfold midE; rw [if_neg (by omega)]
          have c2 : wr.cell? ⟨G, s - (p + 1), none⟩ = some (.int .i64 (En p (s - (p + 1)))) := by rw [HC2.out]; unfold midE; rw [if_neg (by omega)]
          have HA := Lib.hid (En_step p s hsl)
          have hbd := En_le (p + 1) s (by omega)
          rw [HA.out] at hbd
          obtain ⟨hbd1, hbd2⟩ := hbd
          generalize En p s = a at *
          generalize En p (s - (p + 1)) = b at *
          have hkt : ((s : Int) - ((p : Int) + 1)).toNat = s - (p + 1) := by omega
          have hkn : 0 ≤ (s : Int) - ((p : Int) + 1) := by omega
          have hkw : IntKind.i64.wrap ((s : Int) - ((p : Int) + 1)) = (s : Int) - ((p : Int) + 1) := IntWalk.i64_in _ (by omega)
          have haw : IntKind.i64.wrap (a - b) = a - b := IntWalk.i64_in _ (by omega)
          have k1 : (s : Int) < (n : Int) + 1 := by omega
          have k2 : (s : Int) - ((p : Int) + 1) < (n : Int) + 1 := by omega
          have dl : decide ((p : Int) + 1 ≤ s) = true := decide_eq_true (by omega)
          have dl2 : decide (p + 1 ≤ s) = true := decide_eq_true (by omega)
          go_wp2_with fail
          go_region
          all_goals
            go_wp2_with fail
            go_roundw
            case rel => exact ⟨s - 1, by omega, by omega, by go_num, ((hrow2.drew.set s _).congr (fun j _ => midE_next p s hsl _ HA.out.symm j)), (below_drew hb2).setCell HBG.out _⟩
            case measure => simp [intOf]; omega
        · have hse : s = p := by omega
          have HSE := Lib.hid hse
          have dl : decide ((p : Int) + 1 ≤ s) = false := decide_eq_false (by omega)
          have dl2 : decide (p + 1 ≤ s) = false := decide_eq_false (by omega)
          clear hse
          go_wp2_with fail
          go_roundw
          case rel => exact ⟨p + 1, by omega, by go_num, hrow2.congr (fun j _ => by rw [HSE.out]; exact midE_end p j), hb2⟩
          case measure => simp [intOf]; omega
    · obtain rfl : p = n := by omega
      have dp : decide ((p : Int) + 1 ≤ p) = false := decide_eq_false (by omega)
      have dp2 : decide (p + 1 ≤ p) = false := decide_eq_false (by omega)
      have cn := hrow.cell (i := p) (by omega)
      unfold fullE at cn
      go_wp2_with fail
      go_ret2
      have e1 := HGE.out
      have e2 := HBE.out
      rw [e2] at hb
      rw [e1]
      exact ⟨rfl, hb⟩

set_option maxRecDepth 100000 in
set_option maxHeartbeats 8000000 in
theorem rPentagonal_any (n : Nat) (hn : n ≤ 100) (w : World) :
    Calls Try.prog 31 #[.int .i64 n] w fun e w' => e = .returned (.int .i64 (En n n)) ∧ Below w.heap.size w w' := by
  have hmk := fun W => make33 n (by omega) W
  have hm0 : (madeCells #[Value.int .i64 0] (n + 1))[0]? = some (.int .i64 0) := by simp [madeCells]
  go_enter Try.func31, Try.ntmps31
  go_wp2_with fail
  have R0 := made_first yes w n
  have B0 := (Below.refl w.heap.size w).alloc (Nat.le_refl _) (.cells ((madeCells #[.int .i64 0] (n + 1)).setIfInBounds 0 (.int .i64 1)) 3)
  clear hmk hm0
  generalize w.alloc (.cells ((madeCells #[.int .i64 0] (n + 1)).setIfInBounds 0 (.int .i64 1)) 3) = W at *
  obtain ⟨B, hB⟩ : ∃ B, B = w.heap.size := ⟨_, rfl⟩
  rw [← hB] at B0
  have HBE := Lib.hid hB
  have hBG : B ≤ w.heap.size := by omega
  have HBG := Lib.hid hBG
  clear hB hBG
  generalize hGe : w.heap.size = G at *
  have HGE := Lib.hid hGe
  clear hGe
  go_loopw [4, 5] (fun x _ wr => ∃ p : Nat, p ≤ n ∧ x = .int .i64 ((p : Int) + 1) ∧ wr.rowIs G 3 (n + 1) (fullE p) ∧ Below B w wr)
    (fun x _ _ => n + 2 - (intOf x).toNat)
  case atStart => exact ⟨0, by omega, rfl, R0.congr (fun j _ => firstE j), B0⟩
  case round =>
    obtain ⟨p, hp, rfl, hrow, hb⟩ := hrel
    clear R0 B0
    by_cases hlt : p < n
    · have dp : decide ((p : Int) + 1 ≤ n) = true := decide_eq_true (by omega)
      have dp2 : decide (p + 1 ≤ n) = true := decide_eq_true (by omega)
      go_wp2_with fail
      obtain ⟨wo, rfl⟩ : ∃ wo : World, wo = wr := ⟨_, rfl⟩
      go_loopw [5] (fun x wi => ∃ s : Nat, p ≤ s ∧ s ≤ n ∧ x = .int .i64 s ∧ wi.rowIs G 3 (n + 1) (midE p s) ∧ Below B w wi)
        (fun x _ => (intOf x).toNat)
      case atStart => exact ⟨n, by omega, Nat.le_refl _, rfl, hrow.congr (fun j hj => midE_start p n j (by omega)), hb⟩
      case round =>
        obtain ⟨s, hs1, hs2, rfl, hrow2, hb2⟩ := hrel
        clear hrow hb
        by_cases hsl : p + 1 ≤ s
        · have c1 := hrow2.cell (i := s) (by omega)
          have c2 := hrow2.cell (i := s - (p + 1)) (by omega)
          have hfr := hrow2.frozen
          have hlg := hrow2.lt
          have HC1 := Lib.hid c1
          have HC2 := Lib.hid c2
          clear c1 c2
          have c1 : wr.cell? ⟨G, s, none⟩ = some (.int .i64 (En p s)) := by rw [HC1.out]; unfold midE; rw [if_neg (by omega)]
          have c2 : wr.cell? ⟨G, s - (p + 1), none⟩ = some (.int .i64 (En p (s - (p + 1)))) := by rw [HC2.out]; unfold midE; rw [if_neg (by omega)]
          have HA := Lib.hid (En_step p s hsl)
          have hbd := En_le (p + 1) s (by omega)
          rw [HA.out] at hbd
          obtain ⟨hbd1, hbd2⟩ := hbd
          generalize En p s = a at *
          generalize En p (s - (p + 1)) = b at *
          have hkt : ((s : Int) - ((p : Int) + 1)).toNat = s - (p + 1) := by omega
          have hkn : 0 ≤ (s : Int) - ((p : Int) + 1) := by omega
          have hkw : IntKind.i64.wrap ((s : Int) - ((p : Int) + 1)) = (s : Int) - ((p : Int) + 1) := IntWalk.i64_in _ (by omega)
          have haw : IntKind.i64.wrap (a - b) = a - b := IntWalk.i64_in _ (by omega)
          have k1 : (s : Int) < (n : Int) + 1 := by omega
          have k2 : (s : Int) - ((p : Int) + 1) < (n : Int) + 1 := by omega
          have dl : decide ((p : Int) + 1 ≤ s) = true := decide_eq_true (by omega)
          have dl2 : decide (p + 1 ≤ s) = true := decide_eq_true (by omega)
          go_wp2_with fail
          go_region
          all_goals
            go_wp2_with fail
            go_roundw
            case rel => exact ⟨s - 1, by omega, by omega, by go_num, ((hrow2.drew.set s _).congr (fun j _ => midE_next p s hsl _ HA.out.symm j)), (below_drew hb2).setCell HBG.out _⟩
            case measure => simp [intOf]; omega
        · have hse : s = p := by omega
          have HSE := Lib.hid hse
          have dl : decide ((p : Int) + 1 ≤ s) = false := decide_eq_false (by omega)
          have dl2 : decide (p + 1 ≤ s) = false := decide_eq_false (by omega)
          clear hse
          go_wp2_with fail
          go_roundw
          case rel => exact ⟨p + 1, by omega, by go_num, hrow2.congr (fun j _ => by rw [HSE.out]; exact midE_end p j), hb2⟩
          case measure => simp [intOf]; omega
    · obtain rfl : p = n := by omega
      have dp : decide ((p : Int) + 1 ≤ p) = false := decide_eq_false (by omega)
      have dp2 : decide (p + 1 ≤ p) = false := decide_eq_false (by omega)
      have cn := hrow.cell (i := p) (by omega)
      unfold fullE at cn
      go_wp2_with fail
      go_ret
      have e1 := HGE.out
      have e2 := HBE.out
      rw [e2] at hb
      rw [e1]
      exact ⟨rfl, hb⟩

set_option maxHeartbeats 1000000 in
theorem Pentagonal_no (n : Int) (hn : n < 0 ∨ 100 < n) (w : World) :
    Calls Try.prog 23 #[.int .i64 n] w fun e w' => e = .returned (.tuple #[.int .i64 0, .int .i64 2]) ∧ w = w' := by
  by_cases h0 : n < 0
  · have d0 : decide (n < 0) = true := decide_eq_true h0
    clear hn
    go_enter Try.func23, Try.ntmps23
    go_wp2_with fail
    go_ret2
    exact ⟨rfl, rfl⟩
  · have d0 : decide (n < 0) = false := decide_eq_false h0
    have d1 : decide (100 < n) = true := decide_eq_true (by omega)
    clear hn
    go_enter Try.func23, Try.ntmps23
    go_wp2_with fail
    go_ret2
    exact ⟨rfl, rfl⟩
end Go.Proofs.Ytpgpkgnljoedaaa
