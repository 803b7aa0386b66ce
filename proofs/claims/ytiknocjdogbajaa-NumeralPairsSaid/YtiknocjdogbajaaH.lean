/- Walks over heaps: pair, order, valid, cold, taken, partner, Pair, Cold. -/
import Derived.Test.YtiknocjdogbajaaD
import Derived.Test.YtiknocjdogbajaaW
import Derived.Test.YtiknocjdogbajaaQ
import Derived.Deep.RegionHeld3
import Derived.Deep.RegionWith
import Derived.Deep.DrawnRows
namespace Go.Proofs.Ytiknocjdogbajaa
open Go.RowKit

theorem bcell {W w1 : World} {B : Nat} (hb : Below B W w1) : (∀ b o, b < B → w1.cell? ⟨b, o, none⟩ = W.cell? ⟨b, o, none⟩) ∧ (∀ b o, b < B → w1.frozen? ⟨b, o, none⟩ = W.frozen? ⟨b, o, none⟩) :=
  ⟨fun b o h => hb.cell (p := ⟨b, o, none⟩) h, fun b o h => hb.frozen (p := ⟨b, o, none⟩) h⟩
set_option maxHeartbeats 1000000 in
theorem pair_zero (w : World) :
    Calls Try.prog 59 #[.int .i64 0] w fun e w' => e = .returned (.agg #[.int .i64 0, .int .i64 0]) ∧ Below w.heap.size w w' := by
  go_enter Try.func59, Try.ntmps59
  go_wp2_with fail
  exact bodyPost_ret (v := .agg #[.int .i64 0, .int .i64 0]) (by simp [results, Try.results59, go_sem]) rfl ⟨rfl, (Below.refl _ _).alloc (Nat.le_refl _) _⟩
/-- one less -/
theorem encode_pred (n : Nat) (h1 : 1 ≤ n) (hn : n ≤ 1000000000000) (w : World) :
    Calls Try.prog 52 #[.int .i64 ((n : Int) - 1)] w fun e w' => ∃ v, e = .returned v ∧ Ints w' v (ix (zeck (n - 1))) ∧ Below w.heap.size w w' := by
  have := encode_z (n - 1) (by omega) w
  rw [show ((n - 1 : Nat) : Int) = (n : Int) - 1 by omega] at this
  exact this
set_option maxHeartbeats 1000000 in
theorem pair_pos (n : Nat) (h1 : 1 ≤ n) (hn : n ≤ 1000000000000) (w : World) :
    Calls Try.prog 59 #[.int .i64 n] w fun e w' => e = .returned (.agg #[.int .i64 (pa n), .int .i64 ((pa n : Int) + n)]) ∧ Below w.heap.size w w' := by
  have HM := Lib.hid (zeck_mem (n - 1) (by omega))
  have HS := Lib.hid (zeck_sum (n - 1) (by omega))
  have hle := sh_le (n - 1) (by omega)
  have hsh : sh (n - 1) = vs 1 (zeck (n - 1)) := rfl
  have HP := Lib.hid (pa_pos n h1)
  rw [hsh] at hle
  have HSH := Lib.hid hsh; clear hsh
  go_enter Try.func59, Try.ntmps59
  go_wp2_with fail
  refine (encode_pred n h1 hn _).mono ?_
  rintro e w1 ⟨v, rfl, hv, hb1⟩
  go_wp2_with fail
  refine (value_any v (zeck (n - 1)) 1 (by omega) (by omega) HM.out (by rw [HS.out]; omega) _ hv).mono ?_
  rintro e _ ⟨rfl, rfl⟩
  obtain ⟨hc, hf⟩ := bcell hb1
  have hz : w.heap.size < w1.heap.size := by have := hb1.size; simp at this; omega
  go_wp2_with fail
  refine bodyPost_ret (v := .agg #[.int .i64 ((vs 1 (zeck (n - 1)) : Int) + 1), .int .i64 ((vs 1 (zeck (n - 1)) : Int) + 1 + n)]) (by simp [results, Try.results59, go_sem, hc]) rfl ⟨?_, ?_⟩
  · rw [HP.out, HSH.out]; rfl
  · exact ((below_new hb1).setCell (p := ⟨w.heap.size, 0, none⟩) (Nat.le_refl _) _).setCell (p := ⟨w.heap.size, 1, none⟩) (Nat.le_refl _) _
theorem pair_any (n : Nat) (hn : n ≤ 1000000000000) (w : World) :
    Calls Try.prog 59 #[.int .i64 n] w fun e w' => e = .returned (.agg #[.int .i64 (pa n), .int .i64 ((pa n : Int) + n)]) ∧ Below w.heap.size w w' := by
  by_cases h : n = 0
  · subst h; exact pair_zero w
  · exact pair_pos n (by omega) hn w
set_option maxHeartbeats 1000000 in
theorem order_lt (a b : Int) (h : a < b) (w : World) :
    Calls Try.prog 68 #[.agg #[.int .i64 a, .int .i64 b]] w fun e w' => e = .returned (.agg #[.int .i64 a, .int .i64 b]) ∧ Below w.heap.size w w' := by
  go_enter Try.func68, Try.ntmps68
  go_wp2_with fail
  exact bodyPost_ret (v := .agg #[.int .i64 a, .int .i64 b]) (by simp [results, Try.results68, go_sem]) rfl ⟨rfl, ((Below.refl _ _).alloc (Nat.le_refl _) _).alloc (by simp) _⟩
set_option maxHeartbeats 1000000 in
theorem order_gt (a b : Int) (h : b < a) (w : World) :
    Calls Try.prog 68 #[.agg #[.int .i64 a, .int .i64 b]] w fun e w' => e = .returned (.agg #[.int .i64 b, .int .i64 a]) ∧ Below w.heap.size w w' := by
  go_enter Try.func68, Try.ntmps68
  go_wp2_with fail
  exact bodyPost_ret (v := .agg #[.int .i64 b, .int .i64 a]) (by simp [results, Try.results68, go_sem]) rfl ⟨rfl, ((Below.refl _ _).alloc (Nat.le_refl _) _).alloc (by simp) _⟩
set_option maxHeartbeats 1000000 in
theorem order_eq (a : Int) (w : World) :
    Calls Try.prog 68 #[.agg #[.int .i64 a, .int .i64 a]] w fun e w' => e = .returned (.agg #[.int .i64 a, .int .i64 a]) ∧ Below w.heap.size w w' := by
  go_enter Try.func68, Try.ntmps68
  go_wp2_with fail
  exact bodyPost_ret (v := .agg #[.int .i64 a, .int .i64 a]) (by simp [results, Try.results68, go_sem]) rfl ⟨rfl, ((Below.refl _ _).alloc (Nat.le_refl _) _).alloc (by simp) _⟩

theorem order_any (a b : Nat) (w : World) :
    Calls Try.prog 68 #[.agg #[.int .i64 a, .int .i64 b]] w fun e w' => e = .returned (.agg #[.int .i64 (min a b : Nat), .int .i64 (max a b : Nat)]) ∧ Below w.heap.size w w' := by
  rcases Nat.lt_trichotomy a b with h | h | h
  · rw [Nat.min_eq_left (by omega), Nat.max_eq_right (by omega)]; exact order_lt a b (by omega) w
  · subst h; rw [Nat.min_self, Nat.max_self]; exact order_eq a w
  · rw [Nat.min_eq_right (by omega), Nat.max_eq_left (by omega)]; exact order_gt a b (by omega) w
set_option maxHeartbeats 1000000 in
theorem hvalid_yes (a b : Int) (h1 : 0 ≤ a) (h2 : 0 ≤ b) (h3 : a ≤ 1000000) (h4 : b ≤ 1000000) (w : World) :
    Calls Try.prog 60 #[.agg #[.int .i64 a, .int .i64 b]] w fun e w' => e = .returned (.bool true) ∧ Below w.heap.size w w' := by
  rcases Int.lt_trichotomy a b with h | h | h
  all_goals (try subst h)
  all_goals
    go_enter Try.func60, Try.ntmps60
    go_wp2_with fail
    go_ret
    exact ⟨by simp; try omega, (Below.refl _ _).alloc (Nat.le_refl _) _⟩
set_option maxHeartbeats 2000000 in
theorem hvalid_no (a b : Int) (h : a < 0 ∨ b < 0 ∨ 1000000 < a ∨ 1000000 < b) (w : World) :
    Calls Try.prog 60 #[.agg #[.int .i64 a, .int .i64 b]] w fun e w' => e = .returned (.bool false) ∧ Below w.heap.size w w' := by
  have H := Lib.hid h
  clear h
  rcases Int.lt_trichotomy a b with h | h | h
  · by_cases h0 : a < 0
    · go_enter Try.func60, Try.ntmps60
      go_wp2_with fail
      go_ret
      exact ⟨by simp; try omega, (Below.refl _ _).alloc (Nat.le_refl _) _⟩
    · have h1 : 1000000 < b := by have := H.out; omega
      go_enter Try.func60, Try.ntmps60
      go_wp2_with fail
      go_ret
      exact ⟨by simp; try omega, (Below.refl _ _).alloc (Nat.le_refl _) _⟩
  · subst h
    by_cases h0 : a < 0
    · go_enter Try.func60, Try.ntmps60
      go_wp2_with fail
      go_ret
      exact ⟨by simp; try omega, (Below.refl _ _).alloc (Nat.le_refl _) _⟩
    · have h1 : 1000000 < a := by have := H.out; omega
      go_enter Try.func60, Try.ntmps60
      go_wp2_with fail
      go_ret
      exact ⟨by simp; try omega, (Below.refl _ _).alloc (Nat.le_refl _) _⟩
  · by_cases h0 : b < 0
    · go_enter Try.func60, Try.ntmps60
      go_wp2_with fail
      go_ret
      exact ⟨by simp; try omega, (Below.refl _ _).alloc (Nat.le_refl _) _⟩
    · have h1 : 1000000 < a := by have := H.out; omega
      go_enter Try.func60, Try.ntmps60
      go_wp2_with fail
      go_ret
      exact ⟨by simp; try omega, (Below.refl _ _).alloc (Nat.le_refl _) _⟩


theorem index64_0 (x y : Int) (W : World) : (Instr.index 64 (.agg #[.int .i64 x, .int .i64 y]) (.int .i64 0)).run Try.prog W = .ok (.int .i64 x) W := by kernel_rfl
theorem index64_1 (x y : Int) (W : World) : (Instr.index 64 (.agg #[.int .i64 x, .int .i64 y]) (.int .i64 1)).run Try.prog W = .ok (.int .i64 y) W := by kernel_rfl
theorem pair_diff (x y : Nat) (h : y ≤ x) (hx : x ≤ 1000000000000) (w : World) :
    Calls Try.prog 59 #[.int .i64 ((x : Int) - y)] w fun e w' => e = .returned (.agg #[.int .i64 (pa (x - y)), .int .i64 ((pa (x - y) : Int) + (x - y : Nat))]) ∧ Below w.heap.size w w' := by
  have := pair_any (x - y) (by omega) w
  rw [show ((x - y : Nat) : Int) = (x : Int) - y by omega] at this ⊢
  exact this
theorem pair_wrap (x y : Nat) (h : y ≤ x) (hx : x ≤ 1000000000000) (w : World) :
    Calls Try.prog 59 #[.int .i64 (IntKind.i64.wrap ((x : Int) - y))] w fun e w' => e = .returned (.agg #[.int .i64 (pa (x - y)), .int .i64 ((pa (x - y) : Int) + (x - y : Nat))]) ∧ Below w.heap.size w w' := by
  rw [IntWalk.i64_in _ (by omega)]
  exact pair_diff x y h hx w
theorem ret_bool {a b : Bool} (h : a = b) : Ending.returned (.bool a) = .returned (.bool b) := by rw [h]
theorem cold_bool {lo hi : Nat} {r : Bool} (h : lo ≤ hi) (hr : r = true ↔ lo = pa (hi - lo)) : ((lo : Int) == (pa (hi - lo) : Int) && (hi : Int) == (pa (hi - lo) : Int) + (hi - lo : Nat)) = r := by
  rw [Bool.eq_iff_iff, hr]
  simp only [Bool.and_eq_true, beq_iff_eq]
  omega
attribute [local go_sem ↓] Go.wp_at_zero Go.wp_at_succ
set_option maxHeartbeats 4000000 in
theorem cold_any (a b : Nat) (ha : a ≤ 1000000) (hb : b ≤ 1000000) (r : Bool) (hr : r = true ↔ Cold a b) (w : World) :
    Calls Try.prog 61 #[.agg #[.int .i64 a, .int .i64 b]] w fun e w' => e = .returned (.bool r) ∧ Below w.heap.size w w' := by
  unfold Cold at hr
  go_enter Try.func61, Try.ntmps61
  go_wp2_with fail
  have hB0 : Below w.heap.size w (w.alloc (Obj.cells #[Value.int IntKind.i64 a, Value.int IntKind.i64 b] 64)) := (Below.refl _ _).alloc (Nat.le_refl _) _
  have hc0 : (w.alloc (Obj.cells #[Value.int IntKind.i64 a, Value.int IntKind.i64 b] 64)).cell? ⟨w.heap.size, 0, none⟩ = some (.int .i64 a) := by simp [go_sem]
  have hc1 : (w.alloc (Obj.cells #[Value.int IntKind.i64 a, Value.int IntKind.i64 b] 64)).cell? ⟨w.heap.size, 1, none⟩ = some (.int .i64 b) := by simp [go_sem]
  have hz : w.heap.size < (w.alloc (Obj.cells #[Value.int IntKind.i64 a, Value.int IntKind.i64 b] 64)).heap.size := by simp
  generalize w.alloc (Obj.cells #[Value.int IntKind.i64 a, Value.int IntKind.i64 b] 64) = W at *
  generalize hg : w.heap.size = g at *
  have HG := Lib.hid hg
  clear hg
  have heq := eq64
  have hi0 := index64_0
  have hi1 := index64_1
  have horder := fun W => order_any a b W
  have hmm : min a b ≤ max a b := by omega
  have hmx : max a b ≤ 1000000 := by omega
  generalize max a b = hi at *
  generalize min a b = lo at *
  have HR := Lib.hid hr
  clear hr
  have HO := Lib.hid horder
  clear horder
  have HX := Lib.hid (show hi ≤ 1000000000000 by omega)
  go_region_held3 (fun w' => w'.cell? ⟨g, 0, none⟩ = some (.int .i64 a) ∧ w'.cell? ⟨g, 1, none⟩ = some (.int .i64 b) ∧ g < w'.heap.size ∧ Below g w w')
    (first
      | exact ⟨hc0, hc1, hz, hB0.drew⟩
      | go_keep
      | (go_split_ands; exact ⟨(hb1.cell (p := ⟨g, 0, none⟩) (by assumption)).trans (by assumption), (hb1.cell (p := ⟨g, 1, none⟩) (by assumption)).trans (by assumption), Nat.lt_of_lt_of_le (by assumption) hb1.size, Below.trans (by assumption) (hb1.mono (Nat.le_of_lt (by assumption)))⟩))
    (first
      | (go_at_call 68; (with_reducible refine (HO.out _).mono ?_); rintro e w1 ⟨rfl, hb1⟩)
      | (go_at_call 59; (with_reducible refine (pair_wrap hi lo hmm HX.out _).mono ?_); rintro e w1 ⟨rfl, hb1⟩))
  all_goals
    have hH : w1.cell? ⟨g, 0, none⟩ = some (.int .i64 a) ∧ w1.cell? ⟨g, 1, none⟩ = some (.int .i64 b) ∧ g < w1.heap.size ∧ Below g w w1 := by assumption
    go_wp2
    go_ret
    exact ⟨ret_bool (cold_bool hmm HR.out), by rw [HG.out]; exact hH.2.2.2⟩
end Go.Proofs.Ytiknocjdogbajaa
