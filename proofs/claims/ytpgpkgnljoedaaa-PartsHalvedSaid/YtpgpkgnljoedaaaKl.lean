/- Walk of the reference's Kinds at the kinds 0, 1, 3 and 5: a row. -/
import Derived.Test.YtpgpkgnljoedaaaKr
namespace Go.Proofs.Ytpgpkgnljoedaaa
open Go.RowKit
def midU (p s j : Nat) : Value := .int .i64 ((if s < j then Uw (p + 1) j else Uw p j : Nat) : Int)
def fullU (p j : Nat) : Value := .int .i64 (Uw p j : Nat)
theorem Uw_low (p j : Nat) (h : j < p + 1) : Uw (p + 1) j = Uw p j := by rw [Uw, if_neg (by omega)]; rfl
theorem Uw_add (p j : Nat) (h : p + 1 ≤ j) : ((Uw (p + 1) j : Nat) : Int) = (Uw p j : Nat) + (Uw p (j - (p + 1)) : Nat) := by rw [Uw, if_pos h]; omega
theorem midU_start (p n j : Nat) (h : j ≤ n) : fullU p j = midU p n j := by unfold midU fullU; rw [if_neg (by omega)]
theorem midU_end (p j : Nat) : midU p p j = fullU (p + 1) j := by
  unfold midU fullU
  by_cases h : p < j
  · rw [if_pos h]
  · rw [if_neg h, Uw_low p j (by omega)]
theorem midU_next (p s : Nat) (hs : p + 1 ≤ s) (x : Int) (hx : x = (Uw (p + 1) s : Nat)) (j : Nat) : (if j = s then Value.int .i64 x else midU p s j) = midU p (s - 1) j := by
  unfold midU
  by_cases h : j = s
  · subst h; rw [if_pos rfl, if_pos (by omega), hx]
  · rw [if_neg h]
    have : s < j ↔ s - 1 < j := by omega
    simp only [this]
theorem firstU (j : Nat) : fullR yes 0 j = fullU 0 j := by
  unfold fullR fullU V Uw; rfl
set_option maxRecDepth 100000 in
set_option maxHeartbeats 8000000 in
theorem rKinds0 (n : Nat) (hn : n ≤ 100) (w : World) :
    Calls Try.prog 32 #[.int .i64 n, .int .i64 0] w fun e w' => e = .returned (.int .i64 (Uw n n : Nat)) ∧ Below w.heap.size w w' := by
  have hmk := fun W => make33 n (by omega) W
  have hm0 : (madeCells #[Value.int .i64 0] (n + 1))[0]? = some (.int .i64 0) := by simp [madeCells]
  go_enter Try.func32, Try.ntmps32
  go_wp2_with fail
  have R0 := made_first yes w n
  have B0 := (Below.refl w.heap.size w).alloc (Nat.le_refl _) (.cells ((madeCells #[.int .i64 0] (n + 1)).setIfInBounds 0 (.int .i64 1)) 3)
  clear hmk hm0
  generalize w.alloc (.cells ((madeCells #[.int .i64 0] (n + 1)).setIfInBounds 0 (.int .i64 1)) 3) = W at *
  obtain ⟨B, hB⟩ : ∃ B, B = w.heap.size := ⟨_, rfl⟩
  rw [← hB] at B0
  have HBE := Lib.hid hB
  have hBG : B ≤ w.heap.size := by omega
  have HBG := Lib.hid hBG
  clear hB hBG
  generalize hGe : w.heap.size = G at *
  have HGE := Lib.hid hGe
  clear hGe
  go_loopw [10] (fun x wr => ∃ p : Nat, p ≤ n ∧ x = .int .i64 ((p : Int) + 1) ∧ wr.rowIs G 3 (n + 1) (fullU p) ∧ Below B w wr)
    (fun x _ => n + 2 - (intOf x).toNat)
  case atStart => exact ⟨0, by omega, rfl, R0.congr (fun j _ => firstU j), B0⟩
  case round =>
    obtain ⟨p, hp, rfl, hrow, hb⟩ := hrel
    clear R0 B0
    by_cases hlt : p < n
    · have dp : decide ((p : Int) + 1 ≤ n) = true := decide_eq_true (by omega)
      have dp2 : decide (p + 1 ≤ n) = true := decide_eq_true (by omega)
      go_wp2_with fail
      obtain ⟨wo, rfl⟩ : ∃ wo : World, wo = wr := ⟨_, rfl⟩
      go_loopw [11] (fun x wi => ∃ s : Nat, p ≤ s ∧ s ≤ n ∧ x = .int .i64 s ∧ wi.rowIs G 3 (n + 1) (midU p s) ∧ Below B w wi)
        (fun x _ => (intOf x).toNat)
      case atStart => exact ⟨n, by omega, Nat.le_refl _, rfl, hrow.congr (fun j hj => midU_start p n j (by omega)), hb⟩
      case round =>
        obtain ⟨s, hs1, hs2, rfl, hrow2, hb2⟩ := hrel
        clear hrow hb
        by_cases hsl : p + 1 ≤ s
        · have c1 := hrow2.cell (i := s) (by omega)
          have c2 := hrow2.cell (i := s - (p + 1)) (by omega)
          have hfr := hrow2.frozen
          have hlg := hrow2.lt
          have HC1 := Lib.hid c1
          have HC2 := Lib.hid c2
          clear c1 c2
          have c1 : wr.cell? ⟨G, s, none⟩ = some (.int .i64 (Uw p s : Nat)) := by rw [HC1.out]; unfold midU; rw [if_neg (by omega)]
          have c2 : wr.cell? ⟨G, s - (p + 1), none⟩ = some (.int .i64 (Uw p (s - (p + 1)) : Nat)) := by rw [HC2.out]; unfold midU; rw [if_neg (by omega)]
          have HA := Lib.hid (Uw_add p s hsl)
          have hbd1 := Uw_bd p s (by omega) (by omega)
          have hbd2 := Uw_bd p (s - (p + 1)) (by omega) (by omega)
          generalize Uw p s = a at *
          generalize Uw p (s - (p + 1)) = b at *
          have hkt : ((s : Int) - ((p : Int) + 1)).toNat = s - (p + 1) := by omega
          have hkn : 0 ≤ (s : Int) - ((p : Int) + 1) := by omega
          have hkw : IntKind.i64.wrap ((s : Int) - ((p : Int) + 1)) = (s : Int) - ((p : Int) + 1) := IntWalk.i64_in _ (by omega)
          have haw : IntKind.i64.wrap ((a : Int) + b) = (a : Int) + b := IntWalk.i64_in _ (by omega)
          have k1 : (s : Int) < (n : Int) + 1 := by omega
          have k2 : (s : Int) - ((p : Int) + 1) < (n : Int) + 1 := by omega
          have dl : decide ((p : Int) + 1 ≤ s) = true := decide_eq_true (by omega)
          have dl2 : decide (p + 1 ≤ s) = true := decide_eq_true (by omega)
          go_wp2_with fail
          go_region
          all_goals
            go_wp2_with fail
            go_roundw
            case rel => exact ⟨s - 1, by omega, by omega, by go_num, ((hrow2.drew.set s _).congr (fun j _ => midU_next p s hsl _ HA.out.symm j)), (below_drew hb2).setCell HBG.out _⟩
            case measure => simp [intOf]; omega
        · have hse : s = p := by omega
          have HSE := Lib.hid hse
          have dl : decide ((p : Int) + 1 ≤ s) = false := decide_eq_false (by omega)
          have dl2 : decide (p + 1 ≤ s) = false := decide_eq_false (by omega)
          clear hse
          go_wp2_with fail
          go_roundw
          case rel => exact ⟨p + 1, by omega, by go_num, hrow2.congr (fun j _ => by rw [HSE.out]; exact midU_end p j), hb2⟩
          case measure => simp [intOf]; omega
    · obtain rfl : p = n := by omega
      have dp : decide ((p : Int) + 1 ≤ p) = false := decide_eq_false (by omega)
      have dp2 : decide (p + 1 ≤ p) = false := decide_eq_false (by omega)
      have cn := hrow.cell (i := p) (by omega)
      unfold fullU at cn
      go_wp2_with fail
      go_ret
      have e1 := HGE.out
      have e2 := HBE.out
      rw [e2] at hb
      rw [e1]
      exact ⟨rfl, hb⟩

set_option maxRecDepth 100000 in
set_option maxHeartbeats 8000000 in
theorem rKinds1 (n : Nat) (hn : n ≤ 100) (w : World) :
    Calls Try.prog 32 #[.int .i64 n, .int .i64 1] w fun e w' => e = .returned (.int .i64 (V odd1 n n : Nat)) ∧ Below w.heap.size w w' := by
  have hmk := fun W => make33 n (by omega) W
  have hm0 : (madeCells #[Value.int .i64 0] (n + 1))[0]? = some (.int .i64 0) := by simp [madeCells]
  go_enter Try.func32, Try.ntmps32
  go_wp2_with fail
  have R0 := made_first odd1 w n
  have B0 := (Below.refl w.heap.size w).alloc (Nat.le_refl _) (.cells ((madeCells #[.int .i64 0] (n + 1)).setIfInBounds 0 (.int .i64 1)) 3)
  clear hmk hm0
  generalize w.alloc (.cells ((madeCells #[.int .i64 0] (n + 1)).setIfInBounds 0 (.int .i64 1)) 3) = W at *
  obtain ⟨B, hB⟩ : ∃ B, B = w.heap.size := ⟨_, rfl⟩
  rw [← hB] at B0
  have HBE := Lib.hid hB
  have hBG : B ≤ w.heap.size := by omega
  have HBG := Lib.hid hBG
  clear hB hBG
  generalize hGe : w.heap.size = G at *
  have HGE := Lib.hid hGe
  clear hGe
  go_loopw [10] (fun x wr => ∃ p : Nat, p ≤ n ∧ x = .int .i64 ((p : Int) + 1) ∧ wr.rowIs G 3 (n + 1) (fullR odd1 p) ∧ Below B w wr)
    (fun x _ => n + 2 - (intOf x).toNat)
  case atStart => exact ⟨0, by omega, rfl, R0, B0⟩
  case round =>
    obtain ⟨p, hp, rfl, hrow, hb⟩ := hrel
    clear R0 B0
    by_cases hlt : p < n
    · have dp : decide ((p : Int) + 1 ≤ n) = true := decide_eq_true (by omega)
      have dp2 : decide (p + 1 ≤ n) = true := decide_eq_true (by omega)

      by_cases h1 : (p + 1) % 2 = 1
      · have HAL := Lib.hid (show odd1 (p + 1) = true by simp [odd1, h1])
        have e1 : (((p : Int) + 1) % 2 == 1) = true := by rw [beq_iff_eq]; omega
        clear h1
        go_wp2_with fail
        obtain ⟨wo, rfl⟩ : ∃ wo : World, wo = wr := ⟨_, rfl⟩
        go_loopw [12] (fun x wi => ∃ s : Nat, p + 1 ≤ s ∧ s ≤ n + 1 ∧ x = .int .i64 s ∧ wi.rowIs G 3 (n + 1) (midR odd1 p s) ∧ Below B w wi)
          (fun x _ => n + 2 - (intOf x).toNat)
        case atStart => exact ⟨p + 1, Nat.le_refl _, by omega, by go_num, hrow.congr (fun j _ => mid_start odd1 p j), hb⟩
        case round =>
          obtain ⟨s, hs1, hs2, rfl, hrow2, hb2⟩ := hrel
          clear hrow hb
          by_cases hsl : s < n + 1
          · have c1 := hrow2.cell hsl
            have c2 := hrow2.cell (i := s - (p + 1)) (by omega)
            have hfr := hrow2.frozen
            have hlg := hrow2.lt
            have HC1 := Lib.hid c1
            have HC2 := Lib.hid c2
            clear c1 c2
            have c1 : wr.cell? ⟨G, s, none⟩ = some (.int .i64 (V odd1 p s : Nat)) := by rw [HC1.out]; unfold midR; rw [if_neg (by omega)]
            have c2 : wr.cell? ⟨G, s - (p + 1), none⟩ = some (.int .i64 (V odd1 (p + 1) (s - (p + 1)) : Nat)) := by rw [HC2.out]; unfold midR; rw [if_pos (by omega)]
            have HA := Lib.hid (V_add odd1 p s HAL.out hs1)
            have hbd : ((V odd1 p s : Nat) : Int) + ((V odd1 (p + 1) (s - (p + 1)) : Nat) : Int) ≤ 6727090051741041926 := by
              rw [HA.out]; have := V_bound odd1 (p + 1) s (by omega); omega
            generalize V odd1 p s = a at *
            generalize V odd1 (p + 1) (s - (p + 1)) = b at *
            have hkt : ((s : Int) - ((p : Int) + 1)).toNat = s - (p + 1) := by omega
            have hkn : 0 ≤ (s : Int) - ((p : Int) + 1) := by omega
            have hkw : IntKind.i64.wrap ((s : Int) - ((p : Int) + 1)) = (s : Int) - ((p : Int) + 1) := IntWalk.i64_in _ (by omega)
            have haw : IntKind.i64.wrap ((a : Int) + b) = (a : Int) + b := IntWalk.i64_in _ (by omega)
            have k1 : (s : Int) < (n : Int) + 1 := by omega
            have k2 : (s : Int) - ((p : Int) + 1) < (n : Int) + 1 := by omega
            have dl : decide ((s : Int) ≤ n) = true := decide_eq_true (by omega)
            have dl2 : decide (s ≤ n) = true := decide_eq_true (by omega)
            go_wp2_with fail
            go_region
            all_goals
              go_wp2_with fail
              go_roundw
              case rel => exact ⟨s + 1, by omega, by omega, by go_num, ((hrow2.drew.set s _).congr (fun j _ => mid_next odd1 p s _ HA.out j)), (below_drew hb2).setCell HBG.out _⟩
              case measure => simp [intOf]; omega
          · obtain rfl : s = n + 1 := by omega
            have dl : decide (((n + 1 : Nat) : Int) ≤ n) = false := decide_eq_false (by omega)
            have dl2 : decide (n + 1 ≤ n) = false := decide_eq_false (by omega)
            go_wp2_with fail
            go_roundw
            case rel => exact ⟨p + 1, by omega, by go_num, hrow2.congr (fun j hj => mid_end odd1 p _ j hj), hb2⟩
            case measure => simp [intOf]; omega
      · have HAL := Lib.hid (show odd1 (p + 1) = false by simp [odd1, h1])
        have e1 : (((p : Int) + 1) % 2 == 1) = false := by rw [beq_eq_false_iff_ne]; omega
        clear h1
        go_wp2_with fail
        go_roundw
        case rel => exact ⟨p + 1, by omega, by go_num, hrow.congr (fun j _ => by unfold fullR; rw [V_skip _ _ _ HAL.out]), hb⟩
        case measure => simp [intOf]; omega
    · obtain rfl : p = n := by omega
      have dp : decide ((p : Int) + 1 ≤ p) = false := decide_eq_false (by omega)
      have dp2 : decide (p + 1 ≤ p) = false := decide_eq_false (by omega)
      have cn := hrow.cell (i := p) (by omega)
      unfold fullR at cn
      go_wp2_with fail
      go_ret
      have e1 := HGE.out
      have e2 := HBE.out
      rw [e2] at hb
      rw [e1]
      exact ⟨rfl, hb⟩

set_option maxRecDepth 100000 in
set_option maxHeartbeats 8000000 in
theorem rKinds3 (n : Nat) (hn : n ≤ 100) (w : World) :
    Calls Try.prog 32 #[.int .i64 n, .int .i64 3] w fun e w' => e = .returned (.int .i64 (V res1 n n : Nat)) ∧ Below w.heap.size w w' := by
  have hmk := fun W => make33 n (by omega) W
  have hm0 : (madeCells #[Value.int .i64 0] (n + 1))[0]? = some (.int .i64 0) := by simp [madeCells]
  go_enter Try.func32, Try.ntmps32
  go_wp2_with fail
  have R0 := made_first res1 w n
  have B0 := (Below.refl w.heap.size w).alloc (Nat.le_refl _) (.cells ((madeCells #[.int .i64 0] (n + 1)).setIfInBounds 0 (.int .i64 1)) 3)
  clear hmk hm0
  generalize w.alloc (.cells ((madeCells #[.int .i64 0] (n + 1)).setIfInBounds 0 (.int .i64 1)) 3) = W at *
  obtain ⟨B, hB⟩ : ∃ B, B = w.heap.size := ⟨_, rfl⟩
  rw [← hB] at B0
  have HBE := Lib.hid hB
  have hBG : B ≤ w.heap.size := by omega
  have HBG := Lib.hid hBG
  clear hB hBG
  generalize hGe : w.heap.size = G at *
  have HGE := Lib.hid hGe
  clear hGe
  go_loopw [10] (fun x wr => ∃ p : Nat, p ≤ n ∧ x = .int .i64 ((p : Int) + 1) ∧ wr.rowIs G 3 (n + 1) (fullR res1 p) ∧ Below B w wr)
    (fun x _ => n + 2 - (intOf x).toNat)
  case atStart => exact ⟨0, by omega, rfl, R0, B0⟩
  case round =>
    obtain ⟨p, hp, rfl, hrow, hb⟩ := hrel
    clear R0 B0
    by_cases hlt : p < n
    · have dp : decide ((p : Int) + 1 ≤ n) = true := decide_eq_true (by omega)
      have dp2 : decide (p + 1 ≤ n) = true := decide_eq_true (by omega)

      by_cases h1 : (p + 1) % 5 = 1
      · have HAL := Lib.hid (show res1 (p + 1) = true by simp [res1, h1])
        have e1 : (((p : Int) + 1) % 5 == 1) = true := by rw [beq_iff_eq]; omega
        clear h1
        go_wp2_with fail
        obtain ⟨wo, rfl⟩ : ∃ wo : World, wo = wr := ⟨_, rfl⟩
        go_loopw [12] (fun x wi => ∃ s : Nat, p + 1 ≤ s ∧ s ≤ n + 1 ∧ x = .int .i64 s ∧ wi.rowIs G 3 (n + 1) (midR res1 p s) ∧ Below B w wi)
          (fun x _ => n + 2 - (intOf x).toNat)
        case atStart => exact ⟨p + 1, Nat.le_refl _, by omega, by go_num, hrow.congr (fun j _ => mid_start res1 p j), hb⟩
        case round =>
          obtain ⟨s, hs1, hs2, rfl, hrow2, hb2⟩ := hrel
          clear hrow hb
          by_cases hsl : s < n + 1
          · have c1 := hrow2.cell hsl
            have c2 := hrow2.cell (i := s - (p + 1)) (by omega)
            have hfr := hrow2.frozen
            have hlg := hrow2.lt
            have HC1 := Lib.hid c1
            have HC2 := Lib.hid c2
            clear c1 c2
            have c1 : wr.cell? ⟨G, s, none⟩ = some (.int .i64 (V res1 p s : Nat)) := by rw [HC1.out]; unfold midR; rw [if_neg (by omega)]
            have c2 : wr.cell? ⟨G, s - (p + 1), none⟩ = some (.int .i64 (V res1 (p + 1) (s - (p + 1)) : Nat)) := by rw [HC2.out]; unfold midR; rw [if_pos (by omega)]
            have HA := Lib.hid (V_add res1 p s HAL.out hs1)
            have hbd : ((V res1 p s : Nat) : Int) + ((V res1 (p + 1) (s - (p + 1)) : Nat) : Int) ≤ 6727090051741041926 := by
              rw [HA.out]; have := V_bound res1 (p + 1) s (by omega); omega
            generalize V res1 p s = a at *
            generalize V res1 (p + 1) (s - (p + 1)) = b at *
            have hkt : ((s : Int) - ((p : Int) + 1)).toNat = s - (p + 1) := by omega
            have hkn : 0 ≤ (s : Int) - ((p : Int) + 1) := by omega
            have hkw : IntKind.i64.wrap ((s : Int) - ((p : Int) + 1)) = (s : Int) - ((p : Int) + 1) := IntWalk.i64_in _ (by omega)
            have haw : IntKind.i64.wrap ((a : Int) + b) = (a : Int) + b := IntWalk.i64_in _ (by omega)
            have k1 : (s : Int) < (n : Int) + 1 := by omega
            have k2 : (s : Int) - ((p : Int) + 1) < (n : Int) + 1 := by omega
            have dl : decide ((s : Int) ≤ n) = true := decide_eq_true (by omega)
            have dl2 : decide (s ≤ n) = true := decide_eq_true (by omega)
            go_wp2_with fail
            go_region
            all_goals
              go_wp2_with fail
              go_roundw
              case rel => exact ⟨s + 1, by omega, by omega, by go_num, ((hrow2.drew.set s _).congr (fun j _ => mid_next res1 p s _ HA.out j)), (below_drew hb2).setCell HBG.out _⟩
              case measure => simp [intOf]; omega
          · obtain rfl : s = n + 1 := by omega
            have dl : decide (((n + 1 : Nat) : Int) ≤ n) = false := decide_eq_false (by omega)
            have dl2 : decide (n + 1 ≤ n) = false := decide_eq_false (by omega)
            go_wp2_with fail
            go_roundw
            case rel => exact ⟨p + 1, by omega, by go_num, hrow2.congr (fun j hj => mid_end res1 p _ j hj), hb2⟩
            case measure => simp [intOf]; omega
      · by_cases h2 : (p + 1) % 5 = 4
        · have HAL := Lib.hid (show res1 (p + 1) = true by simp [res1, h1, h2])
          have e1 : (((p : Int) + 1) % 5 == 1) = false := by rw [beq_eq_false_iff_ne]; omega
          have e2 : (((p : Int) + 1) % 5 == 4) = true := by rw [beq_iff_eq]; omega
          clear h1 h2
          go_wp2_with fail
          obtain ⟨wo, rfl⟩ : ∃ wo : World, wo = wr := ⟨_, rfl⟩
          go_loopw [12] (fun x wi => ∃ s : Nat, p + 1 ≤ s ∧ s ≤ n + 1 ∧ x = .int .i64 s ∧ wi.rowIs G 3 (n + 1) (midR res1 p s) ∧ Below B w wi)
            (fun x _ => n + 2 - (intOf x).toNat)
          case atStart => exact ⟨p + 1, Nat.le_refl _, by omega, by go_num, hrow.congr (fun j _ => mid_start res1 p j), hb⟩
          case round =>
            obtain ⟨s, hs1, hs2, rfl, hrow2, hb2⟩ := hrel
            clear hrow hb
            by_cases hsl : s < n + 1
            · have c1 := hrow2.cell hsl
              have c2 := hrow2.cell (i := s - (p + 1)) (by omega)
              have hfr := hrow2.frozen
              have hlg := hrow2.lt
              have HC1 := Lib.hid c1
              have HC2 := Lib.hid c2
              clear c1 c2
              have c1 : wr.cell? ⟨G, s, none⟩ = some (.int .i64 (V res1 p s : Nat)) := by rw [HC1.out]; unfold midR; rw [if_neg (by omega)]
              have c2 : wr.cell? ⟨G, s - (p + 1), none⟩ = some (.int .i64 (V res1 (p + 1) (s - (p + 1)) : Nat)) := by rw [HC2.out]; unfold midR; rw [if_pos (by omega)]
              have HA := Lib.hid (V_add res1 p s HAL.out hs1)
              have hbd : ((V res1 p s : Nat) : Int) + ((V res1 (p + 1) (s - (p + 1)) : Nat) : Int) ≤ 6727090051741041926 := by
                rw [HA.out]; have := V_bound res1 (p + 1) s (by omega); omega
              generalize V res1 p s = a at *
              generalize V res1 (p + 1) (s - (p + 1)) = b at *
              have hkt : ((s : Int) - ((p : Int) + 1)).toNat = s - (p + 1) := by omega
              have hkn : 0 ≤ (s : Int) - ((p : Int) + 1) := by omega
              have hkw : IntKind.i64.wrap ((s : Int) - ((p : Int) + 1)) = (s : Int) - ((p : Int) + 1) := IntWalk.i64_in _ (by omega)
              have haw : IntKind.i64.wrap ((a : Int) + b) = (a : Int) + b := IntWalk.i64_in _ (by omega)
              have k1 : (s : Int) < (n : Int) + 1 := by omega
              have k2 : (s : Int) - ((p : Int) + 1) < (n : Int) + 1 := by omega
              have dl : decide ((s : Int) ≤ n) = true := decide_eq_true (by omega)
              have dl2 : decide (s ≤ n) = true := decide_eq_true (by omega)
              go_wp2_with fail
              go_region
              all_goals
                go_wp2_with fail
                go_roundw
                case rel => exact ⟨s + 1, by omega, by omega, by go_num, ((hrow2.drew.set s _).congr (fun j _ => mid_next res1 p s _ HA.out j)), (below_drew hb2).setCell HBG.out _⟩
                case measure => simp [intOf]; omega
            · obtain rfl : s = n + 1 := by omega
              have dl : decide (((n + 1 : Nat) : Int) ≤ n) = false := decide_eq_false (by omega)
              have dl2 : decide (n + 1 ≤ n) = false := decide_eq_false (by omega)
              go_wp2_with fail
              go_roundw
              case rel => exact ⟨p + 1, by omega, by go_num, hrow2.congr (fun j hj => mid_end res1 p _ j hj), hb2⟩
              case measure => simp [intOf]; omega
        · have HAL := Lib.hid (show res1 (p + 1) = false by simp [res1, h1, h2])
          have e1 : (((p : Int) + 1) % 5 == 1) = false := by rw [beq_eq_false_iff_ne]; omega
          have e2 : (((p : Int) + 1) % 5 == 4) = false := by rw [beq_eq_false_iff_ne]; omega
          clear h1 h2
          go_wp2_with fail
          go_roundw
          case rel => exact ⟨p + 1, by omega, by go_num, hrow.congr (fun j _ => by unfold fullR; rw [V_skip _ _ _ HAL.out]), hb⟩
          case measure => simp [intOf]; omega
    · obtain rfl : p = n := by omega
      have dp : decide ((p : Int) + 1 ≤ p) = false := decide_eq_false (by omega)
      have dp2 : decide (p + 1 ≤ p) = false := decide_eq_false (by omega)
      have cn := hrow.cell (i := p) (by omega)
      unfold fullR at cn
      go_wp2_with fail
      go_ret
      have e1 := HGE.out
      have e2 := HBE.out
      rw [e2] at hb
      rw [e1]
      exact ⟨rfl, hb⟩

set_option maxRecDepth 100000 in
set_option maxHeartbeats 8000000 in
theorem rKinds5 (n : Nat) (hn : n ≤ 100) (w : World) :
    Calls Try.prog 32 #[.int .i64 n, .int .i64 5] w fun e w' => e = .returned (.int .i64 (V res2 n n : Nat)) ∧ Below w.heap.size w w' := by
  have hmk := fun W => make33 n (by omega) W
  have hm0 : (madeCells #[Value.int .i64 0] (n + 1))[0]? = some (.int .i64 0) := by simp [madeCells]
  go_enter Try.func32, Try.ntmps32
  go_wp2_with fail
  have R0 := made_first res2 w n
  have B0 := (Below.refl w.heap.size w).alloc (Nat.le_refl _) (.cells ((madeCells #[.int .i64 0] (n + 1)).setIfInBounds 0 (.int .i64 1)) 3)
  clear hmk hm0
  generalize w.alloc (.cells ((madeCells #[.int .i64 0] (n + 1)).setIfInBounds 0 (.int .i64 1)) 3) = W at *
  obtain ⟨B, hB⟩ : ∃ B, B = w.heap.size := ⟨_, rfl⟩
  rw [← hB] at B0
  have HBE := Lib.hid hB
  have hBG : B ≤ w.heap.size := by omega
  have HBG := Lib.hid hBG
  clear hB hBG
  generalize hGe : w.heap.size = G at *
  have HGE := Lib.hid hGe
  clear hGe
  go_loopw [10] (fun x wr => ∃ p : Nat, p ≤ n ∧ x = .int .i64 ((p : Int) + 1) ∧ wr.rowIs G 3 (n + 1) (fullR res2 p) ∧ Below B w wr)
    (fun x _ => n + 2 - (intOf x).toNat)
  case atStart => exact ⟨0, by omega, rfl, R0, B0⟩
  case round =>
    obtain ⟨p, hp, rfl, hrow, hb⟩ := hrel
    clear R0 B0
    by_cases hlt : p < n
    · have dp : decide ((p : Int) + 1 ≤ n) = true := decide_eq_true (by omega)
      have dp2 : decide (p + 1 ≤ n) = true := decide_eq_true (by omega)

      by_cases h1 : (p + 1) % 5 = 2
      · have HAL := Lib.hid (show res2 (p + 1) = true by simp [res2, h1])
        have e1 : (((p : Int) + 1) % 5 == 2) = true := by rw [beq_iff_eq]; omega
        clear h1
        go_wp2_with fail
        obtain ⟨wo, rfl⟩ : ∃ wo : World, wo = wr := ⟨_, rfl⟩
        go_loopw [12] (fun x wi => ∃ s : Nat, p + 1 ≤ s ∧ s ≤ n + 1 ∧ x = .int .i64 s ∧ wi.rowIs G 3 (n + 1) (midR res2 p s) ∧ Below B w wi)
          (fun x _ => n + 2 - (intOf x).toNat)
        case atStart => exact ⟨p + 1, Nat.le_refl _, by omega, by go_num, hrow.congr (fun j _ => mid_start res2 p j), hb⟩
        case round =>
          obtain ⟨s, hs1, hs2, rfl, hrow2, hb2⟩ := hrel
          clear hrow hb
          by_cases hsl : s < n + 1
          · have c1 := hrow2.cell hsl
            have c2 := hrow2.cell (i := s - (p + 1)) (by omega)
            have hfr := hrow2.frozen
            have hlg := hrow2.lt
            have HC1 := Lib.hid c1
            have HC2 := Lib.hid c2
            clear c1 c2
            have c1 : wr.cell? ⟨G, s, none⟩ = some (.int .i64 (V res2 p s : Nat)) := by rw [HC1.out]; unfold midR; rw [if_neg (by omega)]
            have c2 : wr.cell? ⟨G, s - (p + 1), none⟩ = some (.int .i64 (V res2 (p + 1) (s - (p + 1)) : Nat)) := by rw [HC2.out]; unfold midR; rw [if_pos (by omega)]
            have HA := Lib.hid (V_add res2 p s HAL.out hs1)
            have hbd : ((V res2 p s : Nat) : Int) + ((V res2 (p + 1) (s - (p + 1)) : Nat) : Int) ≤ 6727090051741041926 := by
              rw [HA.out]; have := V_bound res2 (p + 1) s (by omega); omega
            generalize V res2 p s = a at *
            generalize V res2 (p + 1) (s - (p + 1)) = b at *
            have hkt : ((s : Int) - ((p : Int) + 1)).toNat = s - (p + 1) := by omega
            have hkn : 0 ≤ (s : Int) - ((p : Int) + 1) := by omega
            have hkw : IntKind.i64.wrap ((s : Int) - ((p : Int) + 1)) = (s : Int) - ((p : Int) + 1) := IntWalk.i64_in _ (by omega)
            have haw : IntKind.i64.wrap ((a : Int) + b) = (a : Int) + b := IntWalk.i64_in _ (by omega)
            have k1 : (s : Int) < (n : Int) + 1 := by omega
            have k2 : (s : Int) - ((p : Int) + 1) < (n : Int) + 1 := by omega
            have dl : decide ((s : Int) ≤ n) = true := decide_eq_true (by omega)
            have dl2 : decide (s ≤ n) = true := decide_eq_true (by omega)
            go_wp2_with fail
            go_region
            all_goals
              go_wp2_with fail
              go_roundw
              case rel => exact ⟨s + 1, by omega, by omega, by go_num, ((hrow2.drew.set s _).congr (fun j _ => mid_next res2 p s _ HA.out j)), (below_drew hb2).setCell HBG.out _⟩
              case measure => simp [intOf]; omega
          · obtain rfl : s = n + 1 := by omega
            have dl : decide (((n + 1 : Nat) : Int) ≤ n) = false := decide_eq_false (by omega)
            have dl2 : decide (n + 1 ≤ n) = false := decide_eq_false (by omega)
            go_wp2_with fail
            go_roundw
            case rel => exact ⟨p + 1, by omega, by go_num, hrow2.congr (fun j hj => mid_end res2 p _ j hj), hb2⟩
            case measure => simp [intOf]; omega
      · by_cases h2 : (p + 1) % 5 = 3
        · have HAL := Lib.hid (show res2 (p + 1) = true by simp [res2, h1, h2])
          have e1 : (((p : Int) + 1) % 5 == 2) = false := by rw [beq_eq_false_iff_ne]; omega
          have e2 : (((p : Int) + 1) % 5 == 3) = true := by rw [beq_iff_eq]; omega
          clear h1 h2
          go_wp2_with fail
          obtain ⟨wo, rfl⟩ : ∃ wo : World, wo = wr := ⟨_, rfl⟩
          go_loopw [12] (fun x wi => ∃ s : Nat, p + 1 ≤ s ∧ s ≤ n + 1 ∧ x = .int .i64 s ∧ wi.rowIs G 3 (n + 1) (midR res2 p s) ∧ Below B w wi)
            (fun x _ => n + 2 - (intOf x).toNat)
          case atStart => exact ⟨p + 1, Nat.le_refl _, by omega, by go_num, hrow.congr (fun j _ => mid_start res2 p j), hb⟩
          case round =>
            obtain ⟨s, hs1, hs2, rfl, hrow2, hb2⟩ := hrel
            clear hrow hb
            by_cases hsl : s < n + 1
            · have c1 := hrow2.cell hsl
              have c2 := hrow2.cell (i := s - (p + 1)) (by omega)
              have hfr := hrow2.frozen
              have hlg := hrow2.lt
              have HC1 := Lib.hid c1
              have HC2 := Lib.hid c2
              clear c1 c2
              have c1 : wr.cell? ⟨G, s, none⟩ = some (.int .i64 (V res2 p s : Nat)) := by rw [HC1.out]; unfold midR; rw [if_neg (by omega)]
              have c2 : wr.cell? ⟨G, s - (p + 1), none⟩ = some (.int .i64 (V res2 (p + 1) (s - (p + 1)) : Nat)) := by rw [HC2.out]; unfold midR; rw [if_pos (by omega)]
              have HA := Lib.hid (V_add res2 p s HAL.out hs1)
              have hbd : ((V res2 p s : Nat) : Int) + ((V res2 (p + 1) (s - (p + 1)) : Nat) : Int) ≤ 6727090051741041926 := by
                rw [HA.out]; have := V_bound res2 (p + 1) s (by omega); omega
              generalize V res2 p s = a at *
              generalize V res2 (p + 1) (s - (p + 1)) = b at *
              have hkt : ((s : Int) - ((p : Int) + 1)).toNat = s - (p + 1) := by omega
              have hkn : 0 ≤ (s : Int) - ((p : Int) + 1) := by omega
              have hkw : IntKind.i64.wrap ((s : Int) - ((p : Int) + 1)) = (s : Int) - ((p : Int) + 1) := IntWalk.i64_in _ (by omega)
              have haw : IntKind.i64.wrap ((a : Int) + b) = (a : Int) + b := IntWalk.i64_in _ (by omega)
              have k1 : (s : Int) < (n : Int) + 1 := by omega
              have k2 : (s : Int) - ((p : Int) + 1) < (n : Int) + 1 := by omega
              have dl : decide ((s : Int) ≤ n) = true := decide_eq_true (by omega)
              have dl2 : decide (s ≤ n) = true := decide_eq_true (by omega)
              go_wp2_with fail
              go_region
              all_goals
                go_wp2_with fail
                go_roundw
                case rel => exact ⟨s + 1, by omega, by omega, by go_num, ((hrow2.drew.set s _).congr (fun j _ => mid_next res2 p s _ HA.out j)), (below_drew hb2).setCell HBG.out _⟩
                case measure => simp [intOf]; omega
            · obtain rfl : s = n + 1 := by omega
              have dl : decide (((n + 1 : Nat) : Int) ≤ n) = false := decide_eq_false (by omega)
              have dl2 : decide (n + 1 ≤ n) = false := decide_eq_false (by omega)
              go_wp2_with fail
              go_roundw
              case rel => exact ⟨p + 1, by omega, by go_num, hrow2.congr (fun j hj => mid_end res2 p _ j hj), hb2⟩
              case measure => simp [intOf]; omega
        · have HAL := Lib.hid (show res2 (p + 1) = false by simp [res2, h1, h2])
          have e1 : (((p : Int) + 1) % 5 == 2) = false := by rw [beq_eq_false_iff_ne]; omega
          have e2 : (((p : Int) + 1) % 5 == 3) = false := by rw [beq_eq_false_iff_ne]; omega
          clear h1 h2
          go_wp2_with fail
          go_roundw
          case rel => exact ⟨p + 1, by omega, by go_num, hrow.congr (fun j _ => by unfold fullR; rw [V_skip _ _ _ HAL.out]), hb⟩
          case measure => simp [intOf]; omega
    · obtain rfl : p = n := by omega
      have dp : decide ((p : Int) + 1 ≤ p) = false := decide_eq_false (by omega)
      have dp2 : decide (p + 1 ≤ p) = false := decide_eq_false (by omega)
      have cn := hrow.cell (i := p) (by omega)
      unfold fullR at cn
      go_wp2_with fail
      go_ret
      have e1 := HGE.out
      have e2 := HBE.out
      rw [e2] at hb
      rw [e1]
      exact ⟨rfl, hb⟩

end Go.Proofs.Ytpgpkgnljoedaaa
