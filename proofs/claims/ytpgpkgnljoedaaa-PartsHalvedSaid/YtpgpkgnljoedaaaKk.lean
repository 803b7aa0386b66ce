/- Walk of the reference's Kinds at the kinds 2 and 4: a table. -/
import Derived.Test.YtpgpkgnljoedaaaKr
namespace Go.Proofs.Ytpgpkgnljoedaaa
open Go.RowKit
def isZ : Value → Bool
  | .int .i64 n => n == 0
  | _ => false
theorem isZ_eq : ∀ {v : Value}, isZ v = true → v = .int .i64 0
  | .int .i64 n, h => by simp [isZ] at h; rw [h]
def cntZ : List Value → Nat → Bool
  | [], n => n == 0
  | _ :: _, 0 => false
  | v :: l, n + 1 => isZ v && cntZ l n
theorem cntZ_eq : ∀ (l : List Value) (n : Nat), cntZ l n = true → l = List.replicate n (.int .i64 0)
  | [], n, h => by simp [cntZ] at h; subst h; rfl
  | _ :: l, 0, h => by simp [cntZ] at h
  | v :: l, n + 1, h => by
    simp only [cntZ, Bool.and_eq_true] at h
    rw [isZ_eq h.1, cntZ_eq l n h.2]; rfl
set_option maxRecDepth 1000000 in
theorem zc63 : cntZ Try.zeroCells63.toList 10302 = true := by kernel_rfl
theorem zeros63 : Try.zeroCells63 = Array.replicate 10302 (.int .i64 0) := by
  have := cntZ_eq _ _ zc63
  rw [← Array.toList_inj, this, Array.toList_replicate]
/-- rows below M are there, and the first X entries of row M -/
def midW (b : Bool) (M X j : Nat) : Value := .int .i64 (if j / 102 < M ∨ (j / 102 = M ∧ j % 102 < X) then Ww b (j % 102) (j / 102) else 0 : Nat)
theorem midW_new (b : Bool) (w : World) : (w.alloc (.cells Try.zeroCells63 63)).rowIs w.heap.size 63 10302 (midW b 0 0) := by
  have h := World.rowIs_alloc w Try.zeroCells63 63 (fun _ => .int .i64 0) (fun i hi => by rw [zeros63] at hi ⊢; simp at hi; simp [hi])
  rw [show Try.zeroCells63.size = 10302 by rw [zeros63]; simp] at h
  exact h.congr (fun j _ => by unfold midW; rw [if_neg (by omega)]; rfl)
theorem midW_end (b : Bool) (M j : Nat) (hj : j < 10302) : midW b M 102 j = midW b (M + 1) 0 j := by
  unfold midW
  have : (j / 102 < M ∨ (j / 102 = M ∧ j % 102 < 102)) ↔ (j / 102 < M + 1 ∨ (j / 102 = M + 1 ∧ j % 102 < 0)) := by omega
  simp only [this]
theorem midW_first (b : Bool) (M j : Nat) (hM : 1 ≤ M) : midW b M 0 j = midW b M 1 j := by
  unfold midW
  by_cases h : j / 102 < M
  · rw [if_pos (.inl h), if_pos (.inl h)]
  · by_cases h2 : j / 102 = M ∧ j % 102 < 1
    · rw [if_neg (by omega), if_pos (.inr h2), show j % 102 = 0 by omega, h2.1, Ww_none b M hM]
    · rw [if_neg (by omega), if_neg (by omega)]
theorem midW_next (b : Bool) (M X : Nat) (hX : X < 102) (v : Int) (hv : v = (Ww b X M : Nat)) (j : Nat) : (if j = M * 102 + X then Value.int .i64 v else midW b M X j) = midW b M (X + 1) j := by
  unfold midW
  by_cases h : j = M * 102 + X
  · subst h
    rw [if_pos rfl, if_pos (by omega), hv, show (M * 102 + X) % 102 = X by omega, show (M * 102 + X) / 102 = M by omega]
  · rw [if_neg h]
    have : (j / 102 < M ∨ (j / 102 = M ∧ j % 102 < X)) ↔ (j / 102 < M ∨ (j / 102 = M ∧ j % 102 < X + 1)) := by omega
    simp only [this]
theorem midW_twice (b : Bool) (M X : Nat) (hX : X < 102) (u v : Int) (hv : v = (Ww b X M : Nat)) (j : Nat) : (if j = M * 102 + X then Value.int .i64 v else if j = M * 102 + X then Value.int .i64 u else midW b M X j) = midW b M (X + 1) j := by
  rw [← midW_next b M X hX v hv j]
  by_cases h : j = M * 102 + X
  · rw [if_pos h, if_pos h]
  · rw [if_neg h, if_neg h, if_neg h]
theorem midW_at (b : Bool) (M X m x : Nat) (hx : x < 102) (h : m < M ∨ (m = M ∧ x < X)) : midW b M X (m * 102 + x) = .int .i64 (Ww b x m : Nat) := by
  unfold midW
  rw [show (m * 102 + x) / 102 = m by omega, show (m * 102 + x) % 102 = x by omega, if_pos h]

set_option maxRecDepth 100000 in
set_option maxHeartbeats 8000000 in
theorem rKinds2 (n : Nat) (hn : n ≤ 100) (w : World) :
    Calls Try.prog 32 #[.int .i64 n, .int .i64 2] w fun e w' => e = .returned (.int .i64 (Ww true 101 n : Nat)) ∧ Below w.heap.size w w' := by
  go_enter Try.func32, Try.ntmps32
  go_wp2_with fail
  have R0 := midW_new true w
  have B0 := (Below.refl w.heap.size w).alloc (Nat.le_refl _) (.cells Try.zeroCells63 63)
  generalize w.alloc (.cells Try.zeroCells63 63) = W at *
  go_loopw [6, 19] (fun _ i wr => ∃ k : Nat, k ≤ 102 ∧ i = .int .i64 k ∧ wr.rowIs w.heap.size 63 10302 (midW true 0 k) ∧ Below w.heap.size w wr) (fun _ i _ => 103 - (intOf i).toNat)
  case atStart => exact ⟨0, by omega, rfl, R0, B0⟩
  case round =>
    obtain ⟨k, hk, rfl, hrow, hb⟩ := hrel
    clear R0 B0
    have hfr := hrow.frozen
    have hlg := hrow.lt
    by_cases hlt : k < 102
    · have c1 := hrow.cell (i := k) (by omega)
      have HN := Lib.hid (fun j => midW_next true 0 k hlt 1 (by rw [Ww_zero]; rfl) j)
      go_wp2_with fail
      go_roundw
      case rel => exact ⟨k + 1, by omega, by go_num, (hrow.set k _).congr (fun j _ => by have := HN.out j; rw [Nat.zero_mul, Nat.zero_add] at this; exact this), hb.setCell (Nat.le_refl _) _⟩
      case measure => simp [intOf]; omega
    · have R1 : wr.rowIs w.heap.size 63 10302 (midW true (0 + 1) 0) := hrow.congr (fun j hj => (by rw [show k = 102 by omega]; exact midW_end true 0 j hj))
      clear hrow hfr
      go_wp2_with fail
      go_loopw [7, 8] (fun x _ wr => ∃ m : Nat, m ≤ n ∧ x = .int .i64 ((m : Int) + 1) ∧ wr.rowIs w.heap.size 63 10302 (midW true (m + 1) 0) ∧ Below w.heap.size w wr) (fun x _ _ => n + 2 - (intOf x).toNat)
      case atStart => exact ⟨0, by omega, rfl, R1, hb⟩
      case round =>
        obtain ⟨m, hm, rfl, hrow, hb⟩ := hrel
        clear R1
        by_cases hlt : m < n
        · have dp : decide ((m : Int) + 1 ≤ n) = true := decide_eq_true (by omega)
          have R2 := hrow.congr (fun j _ => midW_first true (m + 1) j (by omega))
          clear hrow
          go_wp2_with fail
          obtain ⟨wo, rfl⟩ : ∃ wo : World, wo = wr := ⟨_, rfl⟩
          go_loopw [8] (fun x wi => ∃ X : Nat, X ≤ 101 ∧ x = .int .i64 ((X : Int) + 1) ∧ wi.rowIs w.heap.size 63 10302 (midW true (m + 1) (X + 1)) ∧ Below w.heap.size w wi) (fun x _ => 103 - (intOf x).toNat)
          case atStart => exact ⟨0, by omega, rfl, R2, hb⟩
          case round =>
            obtain ⟨X, hX, rfl, hrow, hb2⟩ := hrel
            clear R2 hb
            by_cases hsl : X < 101
            · have hfr := hrow.frozen
              have hlg := hrow.lt
              have c1 := hrow.cell (i := (m + 1) * 102 + X) (by omega)
              rw [midW_at true (m + 1) (X + 1) (m + 1) X (by omega) (by omega)] at c1
              have c2 := hrow.cell (i := (m + 1) * 102 + (X + 1)) (by omega)
              have HW := Lib.hid (Ww_step true X (m + 1))
              have dl : decide ((X : Int) + 1 < 102) = true := decide_eq_true (by omega)
              have hbd1 := Ww_bd true X (m + 1) (by omega) (by omega)
              have HROW := Lib.hid hrow
              clear hrow
              by_cases hA : X ≤ m
              · have dg : decide (X + 1 ≤ m + 1) = true := decide_eq_true (by omega)
                have dg1 : decide ((X : Int) + 1 ≤ (m : Int) + 1) = true := decide_eq_true (by omega)
                by_cases h0 : X = 0
                · subst h0
                  have hW1 : Ww true 0 (m + 1) = 0 := Ww_none true (m + 1) (by omega)
                  have c1 : wr.cell? ⟨w.heap.size, (m + 1) * 102, none⟩ = some (.int .i64 0) := by rw [hW1] at c1; exact c1
                  have HW2 := Lib.hid (HW.out.trans (by rw [if_pos ⟨by omega, .inr rfl⟩, hW1]))
                  have R3 := HROW.out.set ((m + 1) * 102 + 1) (.int .i64 0)
                  have d1 := R3.cell (i := (m + 1) * 102 + 1) (by omega)
                  rw [if_pos rfl] at d1
                  have d2 := R3.cell (i := m * 102) (by omega)
                  rw [if_neg (by omega)] at d2
                  have d3 := HROW.out.cell (i := m * 102) (by omega)
                  have d4 : midW true (m + 1) (0 + 1) (m * 102) = .int .i64 (Ww true 0 m : Nat) := midW_at true (m + 1) (0 + 1) m 0 (by omega) (by omega)
                  rw [d4] at d2 d3
                  have hne : ¬ m * 102 = (m + 1) * 102 + 1 := by omega
                  have hne' : ¬ (m + 1) * 102 + 1 = m * 102 := by omega
                  have hbd2 := Ww_bd true 0 m (by omega) (by omega)
                  clear hW1 d4
                  go_wp2_with fail
                  go_region
                  go_wp2_with fail
                  go_region
                  all_goals
                    go_wp2_with fail
                    go_roundw
                    case rel => exact ⟨1, by omega, by go_num, ((R3.set ((m + 1) * 102 + 1) (.int .i64 (Ww true 0 m : Nat))).congr (fun j _ => midW_twice true (m + 1) 1 (by omega) _ _ (by rw [HW2.out]; simp) j)), (below_drew (below_drew (hb2.setCell (p := ⟨w.heap.size, (m + 1) * 102 + 1, none⟩) (Nat.le_refl _) _))).setCell (p := ⟨w.heap.size, (m + 1) * 102 + 1, none⟩) (Nat.le_refl _) _⟩
                    case measure => simp [intOf]
                · obtain ⟨Y, rfl⟩ : ∃ Y, X = Y + 1 := ⟨X - 1, by omega⟩
                  have HW2 := Lib.hid (HW.out.trans (by rw [if_pos ⟨by omega, .inl (by omega)⟩]))
                  have dk : decide (1 < (Y : Int) + 1 + 1) = true := decide_eq_true (by omega)
                  have R3 := HROW.out.set ((m + 1) * 102 + (Y + 1 + 1)) (.int .i64 (Ww true (Y + 1) (m + 1) : Nat))
                  have d1 := R3.cell (i := (m + 1) * 102 + (Y + 1 + 1)) (by omega)
                  rw [if_pos rfl] at d1
                  have d2 := R3.cell (i := (m - (Y + 1)) * 102 + (Y + 1 + 1 - 2)) (by omega)
                  rw [if_neg (by omega), midW_at true _ _ (m - (Y + 1)) (Y + 1 + 1 - 2) (by omega) (by omega)] at d2
                  rw [show Y + 1 + 1 - 2 = Y by omega] at d2
                  have d3 := HROW.out.cell (i := (m - (Y + 1)) * 102 + Y) (by omega)
                  rw [midW_at true _ _ (m - (Y + 1)) Y (by omega) (by omega)] at d3
                  have hne : ¬ (m - (Y + 1)) * 102 + Y = (m + 1) * 102 + (Y + 1 + 1) := by omega
                  have hne' : ¬ (m + 1) * 102 + (Y + 1 + 1) = (m - (Y + 1)) * 102 + Y := by omega
                  have hyy : Y + 1 + 1 - 2 = Y := by omega
                  have hbd2 := Ww_bd true Y (m - (Y + 1)) (by omega) (by omega)
                  go_wp2_with fail
                  go_region
                  go_wp2_with fail
                  go_region
                  all_goals
                    go_wp2_with fail
                    go_roundw
                    case rel => exact ⟨Y + 1 + 1, by omega, by go_num, ((R3.set ((m + 1) * 102 + (Y + 1 + 1)) (.int .i64 ((Ww true (Y + 1) (m + 1) : Nat) + (Ww true Y (m - (Y + 1)) : Nat) : Int))).congr (fun j _ => midW_twice true (m + 1) (Y + 1 + 1) (by omega) _ _ (by rw [HW2.out, show m + 1 - (Y + 1 + 1) = m - (Y + 1) by omega, show Y + 1 - 1 = Y by omega]; omega) j)), (below_drew (below_drew (hb2.setCell (p := ⟨w.heap.size, (m + 1) * 102 + (Y + 1 + 1), none⟩) (Nat.le_refl _) _))).setCell (p := ⟨w.heap.size, (m + 1) * 102 + (Y + 1 + 1), none⟩) (Nat.le_refl _) _⟩
                    case measure => simp [intOf]; omega
              · have dg : decide (X + 1 ≤ m + 1) = false := decide_eq_false (by omega)
                have dg1 : decide ((X : Int) + 1 ≤ (m : Int) + 1) = false := decide_eq_false (by omega)
                have HW2 := Lib.hid (HW.out.trans (by rw [if_neg (by omega)]))
                go_wp2_with fail
                go_region
                all_goals
                  go_wp2_with fail
                  go_roundw
                  case rel => exact ⟨X + 1, by omega, by go_num, ((HROW.out.set ((m + 1) * 102 + (X + 1)) (.int .i64 (Ww true X (m + 1) : Nat))).congr (fun j _ => midW_next true (m + 1) (X + 1) (by omega) _ (by rw [HW2.out]; rfl) j)).drew, below_drew (hb2.setCell (p := ⟨w.heap.size, (m + 1) * 102 + (X + 1), none⟩) (Nat.le_refl _) _)⟩
                  case measure => simp [intOf]; omega
            · have R3 : wr.rowIs w.heap.size 63 10302 (midW true (m + 1 + 1) 0) := hrow.congr (fun j hj => (by rw [show X + 1 = 102 by omega]; exact midW_end true (m + 1) j hj))
              have dl : decide ((X : Int) + 1 < 102) = false := decide_eq_false (by omega)
              clear hrow
              go_wp2_with fail
              go_roundw
              case rel => exact ⟨m + 1, by omega, by go_num, R3, hb2⟩
              case measure => simp [intOf]; omega
        · have hmn : m = n := by omega
          have dp : decide ((m : Int) + 1 ≤ n) = false := decide_eq_false (by omega)
          have c1 := hrow.cell (i := n * 102 + 101) (by omega)
          rw [midW_at true _ _ n 101 (by omega) (by omega)] at c1
          clear hrow hmn
          go_wp2_with fail
          go_ret
          exact ⟨rfl, hb⟩

set_option maxRecDepth 100000 in
set_option maxHeartbeats 8000000 in
theorem rKinds4 (n : Nat) (hn : n ≤ 100) (w : World) :
    Calls Try.prog 32 #[.int .i64 n, .int .i64 4] w fun e w' => e = .returned (.int .i64 (Ww false 101 n : Nat)) ∧ Below w.heap.size w w' := by
  go_enter Try.func32, Try.ntmps32
  go_wp2_with fail
  have R0 := midW_new false w
  have B0 := (Below.refl w.heap.size w).alloc (Nat.le_refl _) (.cells Try.zeroCells63 63)
  generalize w.alloc (.cells Try.zeroCells63 63) = W at *
  go_loopw [6, 19] (fun _ i wr => ∃ k : Nat, k ≤ 102 ∧ i = .int .i64 k ∧ wr.rowIs w.heap.size 63 10302 (midW false 0 k) ∧ Below w.heap.size w wr) (fun _ i _ => 103 - (intOf i).toNat)
  case atStart => exact ⟨0, by omega, rfl, R0, B0⟩
  case round =>
    obtain ⟨k, hk, rfl, hrow, hb⟩ := hrel
    clear R0 B0
    have hfr := hrow.frozen
    have hlg := hrow.lt
    by_cases hlt : k < 102
    · have c1 := hrow.cell (i := k) (by omega)
      have HN := Lib.hid (fun j => midW_next false 0 k hlt 1 (by rw [Ww_zero]; rfl) j)
      go_wp2_with fail
      go_roundw
      case rel => exact ⟨k + 1, by omega, by go_num, (hrow.set k _).congr (fun j _ => by have := HN.out j; rw [Nat.zero_mul, Nat.zero_add] at this; exact this), hb.setCell (Nat.le_refl _) _⟩
      case measure => simp [intOf]; omega
    · have R1 : wr.rowIs w.heap.size 63 10302 (midW false (0 + 1) 0) := hrow.congr (fun j hj => (by rw [show k = 102 by omega]; exact midW_end false 0 j hj))
      clear hrow hfr
      go_wp2_with fail
      go_loopw [7, 8] (fun x _ wr => ∃ m : Nat, m ≤ n ∧ x = .int .i64 ((m : Int) + 1) ∧ wr.rowIs w.heap.size 63 10302 (midW false (m + 1) 0) ∧ Below w.heap.size w wr) (fun x _ _ => n + 2 - (intOf x).toNat)
      case atStart => exact ⟨0, by omega, rfl, R1, hb⟩
      case round =>
        obtain ⟨m, hm, rfl, hrow, hb⟩ := hrel
        clear R1
        by_cases hlt : m < n
        · have dp : decide ((m : Int) + 1 ≤ n) = true := decide_eq_true (by omega)
          have R2 := hrow.congr (fun j _ => midW_first false (m + 1) j (by omega))
          clear hrow
          go_wp2_with fail
          obtain ⟨wo, rfl⟩ : ∃ wo : World, wo = wr := ⟨_, rfl⟩
          go_loopw [8] (fun x wi => ∃ X : Nat, X ≤ 101 ∧ x = .int .i64 ((X : Int) + 1) ∧ wi.rowIs w.heap.size 63 10302 (midW false (m + 1) (X + 1)) ∧ Below w.heap.size w wi) (fun x _ => 103 - (intOf x).toNat)
          case atStart => exact ⟨0, by omega, rfl, R2, hb⟩
          case round =>
            obtain ⟨X, hX, rfl, hrow, hb2⟩ := hrel
            clear R2 hb
            by_cases hsl : X < 101
            · have hfr := hrow.frozen
              have hlg := hrow.lt
              have c1 := hrow.cell (i := (m + 1) * 102 + X) (by omega)
              rw [midW_at false (m + 1) (X + 1) (m + 1) X (by omega) (by omega)] at c1
              have c2 := hrow.cell (i := (m + 1) * 102 + (X + 1)) (by omega)
              have HW := Lib.hid (Ww_step false X (m + 1))
              have dl : decide ((X : Int) + 1 < 102) = true := decide_eq_true (by omega)
              have hbd1 := Ww_bd false X (m + 1) (by omega) (by omega)
              have HROW := Lib.hid hrow
              clear hrow
              by_cases hA : X ≤ m
              · have dg : decide (X + 1 ≤ m + 1) = true := decide_eq_true (by omega)
                have dg1 : decide ((X : Int) + 1 ≤ (m : Int) + 1) = true := decide_eq_true (by omega)
                by_cases h0 : X = 0
                · subst h0
                  have hW1 : Ww false 0 (m + 1) = 0 := Ww_none false (m + 1) (by omega)
                  have c1 : wr.cell? ⟨w.heap.size, (m + 1) * 102, none⟩ = some (.int .i64 0) := by rw [hW1] at c1; exact c1
                  have HW2 := Lib.hid (HW.out.trans (by rw [if_neg (by simp), hW1]))
                  clear hW1
                  go_wp2_with fail
                  go_region
                  all_goals
                    go_wp2_with fail
                    go_roundw
                    case rel => exact ⟨1, by omega, by go_num, ((HROW.out.set ((m + 1) * 102 + 1) (.int .i64 0)).congr (fun j _ => midW_next false (m + 1) 1 (by omega) _ (by rw [HW2.out]; rfl) j)).drew, below_drew (hb2.setCell (p := ⟨w.heap.size, (m + 1) * 102 + 1, none⟩) (Nat.le_refl _) _)⟩
                    case measure => simp [intOf]
                · obtain ⟨Y, rfl⟩ : ∃ Y, X = Y + 1 := ⟨X - 1, by omega⟩
                  have HW2 := Lib.hid (HW.out.trans (by rw [if_pos ⟨by omega, .inl (by omega)⟩]))
                  have dk : decide (1 < (Y : Int) + 1 + 1) = true := decide_eq_true (by omega)
                  have R3 := HROW.out.set ((m + 1) * 102 + (Y + 1 + 1)) (.int .i64 (Ww false (Y + 1) (m + 1) : Nat))
                  have d1 := R3.cell (i := (m + 1) * 102 + (Y + 1 + 1)) (by omega)
                  rw [if_pos rfl] at d1
                  have d2 := R3.cell (i := (m - (Y + 1)) * 102 + (Y + 1 + 1 - 2)) (by omega)
                  rw [if_neg (by omega), midW_at false _ _ (m - (Y + 1)) (Y + 1 + 1 - 2) (by omega) (by omega)] at d2
                  rw [show Y + 1 + 1 - 2 = Y by omega] at d2
                  have d3 := HROW.out.cell (i := (m - (Y + 1)) * 102 + Y) (by omega)
                  rw [midW_at false _ _ (m - (Y + 1)) Y (by omega) (by omega)] at d3
                  have hne : ¬ (m - (Y + 1)) * 102 + Y = (m + 1) * 102 + (Y + 1 + 1) := by omega
                  have hne' : ¬ (m + 1) * 102 + (Y + 1 + 1) = (m - (Y + 1)) * 102 + Y := by omega
                  have hyy : Y + 1 + 1 - 2 = Y := by omega
                  have hbd2 := Ww_bd false Y (m - (Y + 1)) (by omega) (by omega)
                  go_wp2_with fail
                  go_region
                  go_wp2_with fail
                  go_region
                  all_goals
                    go_wp2_with fail
                    go_roundw
                    case rel => exact ⟨Y + 1 + 1, by omega, by go_num, ((R3.set ((m + 1) * 102 + (Y + 1 + 1)) (.int .i64 ((Ww false (Y + 1) (m + 1) : Nat) + (Ww false Y (m - (Y + 1)) : Nat) : Int))).congr (fun j _ => midW_twice false (m + 1) (Y + 1 + 1) (by omega) _ _ (by rw [HW2.out, show m + 1 - (Y + 1 + 1) = m - (Y + 1) by omega, show Y + 1 - 1 = Y by omega]; omega) j)), (below_drew (below_drew (hb2.setCell (p := ⟨w.heap.size, (m + 1) * 102 + (Y + 1 + 1), none⟩) (Nat.le_refl _) _))).setCell (p := ⟨w.heap.size, (m + 1) * 102 + (Y + 1 + 1), none⟩) (Nat.le_refl _) _⟩
                    case measure => simp [intOf]; omega
              · have dg : decide (X + 1 ≤ m + 1) = false := decide_eq_false (by omega)
                have dg1 : decide ((X : Int) + 1 ≤ (m : Int) + 1) = false := decide_eq_false (by omega)
                have HW2 := Lib.hid (HW.out.trans (by rw [if_neg (by omega)]))
                go_wp2_with fail
                go_region
                all_goals
                  go_wp2_with fail
                  go_roundw
                  case rel => exact ⟨X + 1, by omega, by go_num, ((HROW.out.set ((m + 1) * 102 + (X + 1)) (.int .i64 (Ww false X (m + 1) : Nat))).congr (fun j _ => midW_next false (m + 1) (X + 1) (by omega) _ (by rw [HW2.out]; rfl) j)).drew, below_drew (hb2.setCell (p := ⟨w.heap.size, (m + 1) * 102 + (X + 1), none⟩) (Nat.le_refl _) _)⟩
                  case measure => simp [intOf]; omega
            · have R3 : wr.rowIs w.heap.size 63 10302 (midW false (m + 1 + 1) 0) := hrow.congr (fun j hj => (by rw [show X + 1 = 102 by omega]; exact midW_end false (m + 1) j hj))
              have dl : decide ((X : Int) + 1 < 102) = false := decide_eq_false (by omega)
              clear hrow
              go_wp2_with fail
              go_roundw
              case rel => exact ⟨m + 1, by omega, by go_num, R3, hb2⟩
              case measure => simp [intOf]; omega
        · have hmn : m = n := by omega
          have dp : decide ((m : Int) + 1 ≤ n) = false := decide_eq_false (by omega)
          have c1 := hrow.cell (i := n * 102 + 101) (by omega)
          rw [midW_at false _ _ n 101 (by omega) (by omega)] at c1
          clear hrow hmn
          go_wp2_with fail
          go_ret
          exact ⟨rfl, hb⟩
end Go.Proofs.Ytpgpkgnljoedaaa
